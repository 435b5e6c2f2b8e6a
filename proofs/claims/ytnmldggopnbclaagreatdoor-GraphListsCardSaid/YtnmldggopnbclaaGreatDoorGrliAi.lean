/- A part of the proof: plain forms of functions and laws about them. -/
import Derived.Test.YtnmldggopnbclaaGreatDoorGrliAh
namespace Go.V
open Go.RowKit (Below)
theorem add_mk (b o n : Nat) : (⟨b, o, none⟩ : Addr).add n = ⟨b, o + n, none⟩ := by
 unfold Addr.add; split
 ·rename_i h; subst h; rfl
 ·rfl
theorem wrap_id {x : Int} (h0 : -9223372036854775808 ≤ x) (h1 : x ≤ 9223372036854775807) : IntKind.wrap .i64 x = x := by rw [IntKind.wrap_i64]; omega
theorem wrap_succ {n : Nat} (h : n < 9223372036854775807) : IntKind.wrap .i64 ((n : Int) + 1) = ((n + 1 : Nat) : Int) := by rw [wrap_id] <;> omega
abbrev Ext (w w' : World) : Prop := Below w.heap.size w w'
theorem Ext.refl (w : World) : Ext w w := Below.refl _ _
theorem Ext.trans {a b c : World} (h : Ext a b) (k : Ext b c) : Ext a c := Below.trans h (k.mono h.size)
theorem Ext.cell {w w' : World} (h : Ext w w') {p : Addr} {v : Value} (hp : w.cell? p = some v) : w'.cell? p = some v := by
 rw [Below.cell h (block_lt_of_cell hp)]; exact hp
theorem Ext.blk {w w' : World} (h : Ext w w') {b : Nat} {o : Obj} (hb : w.heap[b]? = some o) : w'.heap[b]? = some o := by
 rw [h.block b (Array.getElem?_eq_some_iff.1 hb).1]; exact hb
theorem Ext.drew (w : World) : Ext w w.drew := (Below.refl _ _).drew
theorem Ext.grown {w w' : World} {row : Option Nat} (hg : w.grownBy w' row) (hr : row = none) : Ext w w' := by
 subst hr
 exact ⟨hg.os, hg.tape, hg.output, hg.size, fun k hk => hg.block k hk (by simp)⟩
/-! ### Blocks -/
def Blk (w : World) (b : Nat) (cs : Array Value) (t : Nat) : Prop := w.heap[b]? = some (.cells cs t (0, 0))
theorem Blk.lt {w : World} {b : Nat} {cs : Array Value} {t : Nat} (h : Blk w b cs t) : b < w.heap.size := (Array.getElem?_eq_some_iff.1 h).1
theorem Blk.cell {w : World} {b : Nat} {cs : Array Value} {t : Nat} (h : Blk w b cs t) (i : Nat) : w.cell? ⟨b, i, none⟩ = cs[i]? := by
 simp only [World.cell?]; rw [show w.heap[(⟨b, i, none⟩ : Addr).block]? = _ from h]; rfl
theorem Blk.frozen {w : World} {b : Nat} {cs : Array Value} {t : Nat} (h : Blk w b cs t) (i : Nat) : w.frozen? ⟨b, i, none⟩ = false := by
 simp only [World.frozen?]; rw [show w.heap[(⟨b, i, none⟩ : Addr).block]? = _ from h]; simp
theorem Blk.ext {w w' : World} {b : Nat} {cs : Array Value} {t : Nat} (h : Blk w b cs t) (k : Ext w w') : Blk w' b cs t := Ext.blk k h
structure But (b : Nat) (w w' : World) : Prop where
 os : w'.os = w.os
 tape : w'.tape = w.tape
 output : w'.output = w.output
 size : w'.heap.size = w.heap.size
 block : ∀ k, k ≠ b → w'.heap[k]? = w.heap[k]?
theorem But.below {b B : Nat} {w0 w w' : World} (h : But b w w') (k : Below B w0 w) (hB : B ≤ b) : Below B w0 w' :=
 ⟨h.os.trans k.os, h.tape.trans k.tape, h.output.trans k.output, by rw [h.size]; exact k.size, fun i hi => (h.block i (by omega)).trans (k.block i hi)⟩
theorem But.trans {b : Nat} {a c d : World} (h : But b a c) (k : But b c d) : But b a d :=
 ⟨k.os.trans h.os, k.tape.trans h.tape, k.output.trans h.output, k.size.trans h.size, fun i hi => (k.block i hi).trans (h.block i hi)⟩
theorem AllocK.mk {w : World} {cs : Array Value} {t : Nat} {K : Addr → World → Prop}
  (h : ∀ (b : Nat) (w' : World), b = w.heap.size → Blk w' b cs t → Ext w w' → K ⟨b, 0, none⟩ w') : AllocK w cs t K := by
 refine h _ _ rfl ?_ ((Below.refl _ _).alloc (Nat.le_refl _) _)
 show (w.alloc (.cells cs t)).heap[w.heap.size]? = _
 exact heap_alloc_new w _
theorem SetK.mk {w : World} {b i : Nat} {cs : Array Value} {t : Nat} {v : Value} {F : World → Prop} (hb : Blk w b cs t) (hi : i < cs.size)
  (h : ∀ w', Blk w' b (cs.setIfInBounds i v) t → But b w w' → F w') : SetK w ⟨b, i, none⟩ v F := by
 refine ⟨⟨⟨_, by rw [hb.cell, Array.getElem?_eq_getElem hi]⟩, hb.frozen i⟩, h _ ?_ ⟨rfl, rfl, rfl, by simp, fun k hk => ?_⟩⟩
 ·exact heap_setCell_same w b i cs t v hb
 ·exact heap_setCell_other w ⟨b, i, none⟩ k v hk
theorem StRow.mk {w : World} {b n : Nat} {cs vs : Array Value} {t : Nat} {F : World → Prop} (hb : Blk w b cs t) (h1 : cs.size = n) (h2 : vs.size = n) (h3 : vs.all (·.oneCell') = true)
  (h : ∀ w', Blk w' b vs t → But b w w' → F w') : StRow w ⟨b, 0, none⟩ vs n F :=
 ⟨⟨h2, h3, rfl, rfl, cs, t, hb, h1⟩, h _ (setRow_heap w b cs vs t _ hb) ⟨rfl, rfl, rfl, by simp, fun k hk => setRow_other w b k vs hk⟩⟩
theorem local2 {w : World} {z0 z1 v0 v1 : Value} {t : Nat} {F : Addr → World → Prop}
  (h : ∀ (b : Nat) (w' : World), b = w.heap.size → Blk w' b #[v0, v1] t → Ext w w' → F ⟨b, 0, none⟩ w') :
  AllocK w #[z0, z1] t fun b w1 => SetK w1 (b.add 0) v0 fun w2 => SetK w2 (b.add 1) v1 fun w3 => F b w3 := by
 refine AllocK.mk fun b w1 hb h1 hx => ?_
 rw [add_mk, add_mk]
 refine SetK.mk h1 (by simp) fun w2 h2 g2 => SetK.mk h2 (by simp) fun w3 h3 g3 => ?_
 exact h b w3 hb (by simpa using h3) (g3.below (g2.below hx (by omega)) (by omega))
/-! ### Lists in memory -/
abbrev Cells := Nat → Option Value
def Rows {α : Type} (sz : Nat) (R : World → Cells → α → Prop) (w : World) (a : Option Addr) (l : Nat) (xs : List α) : Prop :=
 l = xs.length ∧ (xs = [] ∨ ∃ b o, a = some ⟨b, o, none⟩ ∧ ∀ i x, xs[i]? = some x → R w (fun j => w.cell? ⟨b, o + i * sz + j, none⟩) x)
def Mono {α : Type} (R : World → Cells → α → Prop) : Prop := ∀ w w' (f : Nat → Option Value) (g : Nat → Option Value) x, Ext w w' → (∀ j v, f j = some v → g j = some v) → R w f x → R w' g x
theorem Rows.ext {α : Type} {sz : Nat} {R : World → Cells → α → Prop} (hR : Mono R) {w w' : World} {a : Option Addr} {l : Nat} {xs : List α} (h : Rows sz R w a l xs) (k : Ext w w') : Rows sz R w' a l xs := by
 obtain ⟨h1, h2⟩ := h
 refine ⟨h1, h2.imp id ?_⟩
 rintro ⟨b, o, ha, hx⟩
 exact ⟨b, o, ha, fun i x hi => hR w w' _ _ x k (fun j v hv => k.cell hv) (hx i x hi)⟩
theorem Rows.nil {α : Type} (sz : Nat) (R : World → Cells → α → Prop) (w : World) (a : Option Addr) : Rows sz R w a 0 ([] : List α) := ⟨rfl, .inl rfl⟩
theorem Rows.get {α : Type} {sz : Nat} {R : World → Cells → α → Prop} {w : World} {a : Option Addr} {l : Nat} {xs : List α} (h : Rows sz R w a l xs) {i : Nat} (hi : i < xs.length) :
  ∃ b o, a = some ⟨b, o, none⟩ ∧ R w (fun j => w.cell? ⟨b, o + i * sz + j, none⟩) xs[i] := by
 obtain ⟨_, h | ⟨b, o, ha, hx⟩⟩ := h
 ·subst h; simp at hi
 ·exact ⟨b, o, ha, hx i _ (List.getElem?_eq_getElem hi)⟩
def RInt (_ : World) (f : Cells) (x : Int) : Prop := f 0 = some (.int .i64 x)
def RPair (_ : World) (f : Cells) (x : Int × Int) : Prop := f 0 = some (.int .i64 x.1) ∧ f 1 = some (.int .i64 x.2)
theorem RInt.mono : Mono RInt := fun _ _ _ _ _ _ h k => h _ _ k
theorem RPair.mono : Mono RPair := fun _ _ _ _ _ _ h k => ⟨h _ _ k.1, h _ _ k.2⟩
abbrev Dom (w : World) (a : Option Addr) (l : Nat) (d : List (Int × Int)) : Prop := Rows 2 RPair w a l d
abbrev Ints (w : World) (a : Option Addr) (l : Nat) (d : List Int) : Prop := Rows 1 RInt w a l d
end Go.V
