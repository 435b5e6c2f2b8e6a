/- A part of the proof: plain forms of functions and laws about them. -/
import Derived.Test.YtnmldggopnbclaaGreatDoorGrliAr
namespace Go.V
open Go.RowKit (Below)
abbrev OwnM (ρ : Type) := Nat → Option ρ
abbrev SL := Option Addr × Nat × Nat
def sblk (s : SL) : Option Nat := (Value.slice s.1 s.2.1 s.2.2).ownBlock
def setOwn {ρ : Type} (own : OwnM ρ) (o : Option Nat) (r : ρ) : OwnM ρ := fun k => if o = some k then some r else own k
structure Upd {ρ : Type} (own own' : OwnM ρ) (r : ρ) (w w' : World) : Prop where
 os : w'.os = w.os
 tape : w'.tape = w.tape
 output : w'.output = w.output
 size : w.heap.size ≤ w'.heap.size
 block : ∀ k, k < w.heap.size → own k ≠ some r → w'.heap[k]? = w.heap[k]?
 same : ∀ k, k < w.heap.size → own' k = own k
 top : (∀ k, w.heap.size ≤ k → own k = none) → ∀ k, w'.heap.size ≤ k → own' k = none
structure Fr {ρ : Type} (own own' : OwnM ρ) (w w' : World) : Prop where
 os : w'.os = w.os
 tape : w'.tape = w.tape
 output : w'.output = w.output
 size : w.heap.size ≤ w'.heap.size
 block : ∀ k, k < w.heap.size → own k = none → w'.heap[k]? = w.heap[k]?
 free : ∀ k, k < w.heap.size → own k = none → own' k = none
section
variable {ρ : Type} {own own' own'' : OwnM ρ} {r : ρ} {w w' w'' : World}
theorem Upd.fr (h : Upd own own' r w w') : Fr own own' w w' :=
 ⟨h.os, h.tape, h.output, h.size, fun k hk hn => h.block k hk (by rw [hn]; simp), fun k hk hn => by rw [h.same k hk]; exact hn⟩
theorem Fr.refl (own : OwnM ρ) (w : World) : Fr own own w w := ⟨rfl, rfl, rfl, Nat.le_refl _, fun _ _ _ => rfl, fun _ _ h => h⟩
theorem Fr.of_ext (own : OwnM ρ) (h : Ext w w') : Fr own own w w' := ⟨h.os, h.tape, h.output, h.size, fun k hk _ => h.block k hk, fun _ _ h => h⟩
theorem Fr.trans (h : Fr own own' w w') (k : Fr own' own'' w' w'') : Fr own own'' w w'' :=
 ⟨k.os.trans h.os, k.tape.trans h.tape, k.output.trans h.output, Nat.le_trans h.size k.size,
  fun i hi hn => (k.block i (Nat.lt_of_lt_of_le hi h.size) (h.free i hi hn)).trans (h.block i hi hn), fun i hi hn => k.free i (Nat.lt_of_lt_of_le hi h.size) (h.free i hi hn)⟩
theorem Upd.of_but {b : Nat} (h : But b w w') (hb : own b = some r) : Upd own own r w w' :=
 ⟨h.os, h.tape, h.output, by rw [h.size]; exact Nat.le_refl _, fun k _ hk => h.block k (fun e => hk (e ▸ hb)), fun _ _ => rfl, fun ht k hk => ht k (by rw [← h.size]; exact hk)⟩
theorem Upd.of_grown {row row' : Option Nat} (h : w.grownBy w' row) (hr : ∀ k, row = some k → own k = some r) (hn : row' = row ∨ ∃ g, row' = some g ∧ w.heap.size ≤ g) (hl : ∀ k, row' = some k → k < w'.heap.size) :
  Upd own (setOwn own row' r) r w w' := by
 refine ⟨h.os, h.tape, h.output, h.size, fun k hk hne => h.block k hk (fun e => hne (hr k e.symm)), fun k hk => ?_, fun ht k hk => ?_⟩
 ·unfold setOwn; split
  ·rename_i e
   rcases hn with hn | ⟨g, hg, hge⟩
   ·exact (hr k (hn ▸ e)).symm
   ·rw [hg] at e; cases e; omega
  ·rfl
 ·unfold setOwn; split
  ·rename_i e; have := hl k e; omega
  ·exact ht k (Nat.le_trans h.size hk)
def RowR {α : Type} (own : OwnM ρ) (r : ρ) (e : TypeId) (sz : Nat) (enc : α → List Value) (w : World) (s : SL) (xs : List α) : Prop :=
 OwnR 0 e sz enc w s.1 s.2.1 s.2.2 xs ∧ ∀ k, sblk s = some k → own k = some r
theorem RowR.nil {α : Type} (own : OwnM ρ) (r : ρ) (e : TypeId) (sz : Nat) (enc : α → List Value) (w : World) : RowR own r e sz enc w (none, 0, 0) ([] : List α) := ⟨OwnR.nil _ _ _ _ _, fun k hk => by cases hk⟩
theorem RowR.upd {α : Type} {r2 : ρ} {e : TypeId} {sz : Nat} {enc : α → List Value} {s : SL} {xs : List α} (h : RowR own r2 e sz enc w s xs) (u : Upd own own' r w w') (hne : r2 ≠ r) : RowR own' r2 e sz enc w' s xs :=
 ⟨h.1.kept fun k hk => u.block k (h.1.lt k hk).2 (by rw [h.2 k hk]; simpa using hne), fun k hk => by rw [u.same k (h.1.lt k hk).2]; exact h.2 k hk⟩
theorem RowR.ext {α : Type} {r2 : ρ} {e : TypeId} {sz : Nat} {enc : α → List Value} {s : SL} {xs : List α} (h : RowR own r2 e sz enc w s xs) (k : Ext w w') : RowR own r2 e sz enc w' s xs := ⟨h.1.ext k, h.2⟩
theorem RowR.frame {α : Type} {r2 : ρ} {e : TypeId} {sz : Nat} {enc : α → List Value} {s : SL} {xs : List α} (h : RowR own r2 e sz enc w s xs) (k : ∀ b, b < w.heap.size → own b ≠ none → w'.heap[b]? = w.heap[b]?) : RowR own r2 e sz enc w' s xs :=
 ⟨h.1.kept fun b hb => k b (h.1.lt b hb).2 (by rw [h.2 b hb]; simp), h.2⟩
theorem RowR.len {α : Type} {e : TypeId} {sz : Nat} {enc : α → List Value} {s : SL} {xs : List α} (h : RowR own r e sz enc w s xs) : s.2.1 = xs.length := h.1.1
theorem RowR.at_ {α : Type} {e : TypeId} {sz : Nat} {enc : α → List Value} {s : SL} {xs : List α} (h : RowR own r e sz enc w s xs) (he : ∀ x, (enc x).length = sz) {i : Nat} (hi : i < xs.length) :
  ∃ g l c, s = (some ⟨g, 0, none⟩, l, c) ∧ own g = some r ∧ g < w.heap.size ∧ ∀ j, j < sz → w.cell? ⟨g, i * sz + j, none⟩ = (enc xs[i])[j]? := by
 obtain ⟨g, ha, _, hg, hc⟩ := h.1.cellAt he (List.getElem?_eq_getElem hi)
 obtain ⟨a, l, c⟩ := s
 simp only at ha; subst ha
 exact ⟨g, l, c, rfl, h.2 g rfl, hg, hc⟩
theorem RowR.push {α : Type} {P : Program} {t ty e te : TypeId} {sz bytes : Nat} {enc : α → List Value} {s : SL} {xs : List α} (x : α) (H : SlT P t e sz bytes) (h : RowR own r e sz enc w s xs)
  (he : ∀ x, (enc x).length = sz) (h1 : ∀ x u, u ∈ enc x → u.oneCell' = true) (hlen : (xs.length + 1) * bytes ≤ 140737488355328) {cs : Array Value} (hcs : cs = (enc x).toArray) {F : Option Addr → Nat → Nat → World → Prop}
  (k : ∀ s' w', RowR (setOwn own (sblk s') r) r e sz enc w' s' (xs ++ [x]) → Upd own (setOwn own (sblk s') r) r w w' → F s'.1 s'.2.1 s'.2.2 w') :
  AllocK w cs te fun b w1 => ∃ a' l' c' w2, Sem.run P (Builtin.append_ #[t, t] ty #[.slice s.1 s.2.1 s.2.2, .slice (some b) 1 1]) w1 = .ok (.slice a' l' c') w2 ∧ F a' l' c' w2 := by
 refine OwnR.push x H h.1 (Nat.zero_le _) he h1 hlen hcs fun a' c' w' ho hg hn => ?_
 have hu : Upd own (setOwn own (sblk (a', xs.length + 1, c')) r) r w w' := Upd.of_grown hg h.2 hn (fun k hk => (ho.lt k hk).2)
 refine k (a', xs.length + 1, c') w' ⟨ho, fun g hg => ?_⟩ hu
 unfold setOwn; rw [if_pos hg]
theorem RowR.set {α : Type} {e : TypeId} {sz : Nat} {enc : α → List Value} {g l c : Nat} {xs ys : List α} (h : RowR own r e sz enc w (some ⟨g, 0, none⟩, l, c) xs) (i : Nat) (v : Value) (hi : i < xs.length * sz)
  (hl : ys.length = xs.length) (hys : (xs.flatMap enc).set i v = ys.flatMap enc) {F : World → Prop}
  (k : ∀ w', RowR own r e sz enc w' (some ⟨g, 0, none⟩, l, c) ys → Upd own own r w w' → F w') : SetK w ⟨g, i, none⟩ v F :=
 OwnR.set h.1 i v hi hl hys fun w' ho hbut => k w' ⟨ho, h.2⟩ (Upd.of_but hbut (h.2 g rfl))
theorem MapF.upd {K V : Type} [DecidableEq K] {enc : K → Value} {encV : V → Value} {z : V} {m : Nat} {f : K → V} (h : MapF enc encV z w m f) {r2 : ρ} (hm : own m = some r2) (u : Upd own own' r w w') (hne : r2 ≠ r) : MapF enc encV z w' m f :=
 h.heap (u.block m h.lt (by rw [hm]; simpa using hne))
theorem Blk.upd {b t : Nat} {cs : Array Value} (h : Blk w b cs t) {r2 : ρ} (hb : own b = some r2) (u : Upd own own' r w w') (hne : r2 ≠ r) : Blk w' b cs t :=
 (u.block b h.lt (by rw [hb]; simpa using hne)).trans h
theorem Fr.blk {b t : Nat} {cs : Array Value} (h : Blk w b cs t) (f : Fr own own' w w') (hb : own b = none) : Blk w' b cs t := (f.block b h.lt hb).trans h
end
end Go.V
