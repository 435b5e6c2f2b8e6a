/- A part of the proof: plain forms of functions and laws about them. -/
import Derived.Test.YtnmldggopnbclaaGreatDoorGrliBc
import Derived.Deep.Slices
import Derived.OpenShut
import Derived.Lib.SmallJoins
namespace Go.V
open Go.RowKit (Below)
def Rd {H : Type} (enc : TypeId × Value → H) (P : Program) (w : World) (t : TypeId) (cs : List Value) : Prop :=
 ∃ fuel x, DataW.trod enc P w 0 (fun _ => true) true fuel t cs = some x
section
variable {H : Type} {enc : TypeId × Value → H} {P : Program} {w : World}
theorem Rd.of {t : TypeId} {v : Value} {d : DataW H} {ps : List MemPlace} (h : DataW.Trod enc P w 0 (fun _ => true) true t v d ps) : Rd enc P w t v.cells.toList := by
 obtain ⟨f, hf⟩ := h; exact ⟨f, _, hf⟩
theorem Rd.int {t : TypeId} {k : IntKind} {cs : List Value} (ht : P.underlying t = some (.int k)) (h : Rd enc P w t cs) : ∃ n, cs = [.int k n] ∧ (Lit.int k n).wf = true := by
 obtain ⟨f, x, h⟩ := h
 obtain ⟨n, h1, _, h2⟩ := DataW.trod_int ht h
 exact ⟨n, h1, h2⟩
theorem Rd.string {t : TypeId} {cs : List Value} (ht : P.underlying t = some .string) (h : Rd enc P w t cs) : ∃ s : ByteArray, cs = [.string s] ∧ s.size ≤ maxLen := by
 obtain ⟨f, x, h⟩ := h
 obtain ⟨s, h1, _, h2⟩ := DataW.trod_string ht h
 exact ⟨s, h1, h2⟩
theorem Rd.array {t e : TypeId} {n : Nat} {cs : List Value} (ht : P.underlying t = some (.array n e)) (h : Rd enc P w t cs) : cs.length = P.cellsOf t ∧ ∀ i, i < n → Rd enc P w e ((cs.drop (i * P.cellsOf e)).take (P.cellsOf e)) := by
 obtain ⟨f, x, h⟩ := h
 obtain ⟨xs, m, _, _, hl, hx, hf⟩ := DataW.trod_array ht h
 refine ⟨hl, fun i hi => ⟨m, xs[i]'(by omega), ?_⟩⟩
 rw [hf i hi, List.getElem?_eq_getElem]
theorem Rd.struct {t : TypeId} {fs : Array Field} {cs : List Value} (ht : P.underlying t = some (.struct fs)) (h : Rd enc P w t cs) : cs.length = P.cellsOf t ∧ ∀ (i : Nat) (f : Field), fs[i]? = some f → Rd enc P w f.type ((cs.drop f.offset).take (P.cellsOf f.type)) := by
 obtain ⟨fu, x, h⟩ := h
 obtain ⟨xs, n, _, _, hl, hlen, hf⟩ := DataW.trod_struct ht h
 refine ⟨hl, fun i f hi => ?_⟩
 have hi' : i < fs.size := (Array.getElem?_eq_some_iff.1 hi).1
 refine ⟨n, xs[i]'(by simpa [hlen] using hi'), ?_⟩
 have := hf i f (by simpa using hi)
 rw [this, List.getElem?_eq_getElem]
theorem Rd.slice {α : Type} {R : World → Cells → α → Prop} {t e : TypeId} {sz : Nat} {cs : List Value} (ht : P.underlying t = some (.slice e)) (hs : P.cellsOf e = sz) (hpos : 0 < sz)
  (hR : ∀ (f : Nat → Option Value) (cs' : List Value), cs'.length = sz → (∀ j, j < sz → f j = cs'[j]?) → Rd enc P w e cs' → ∃ x, R w f x) (h : Rd enc P w t cs) :
  ∃ a l c xs, cs = [.slice a l c] ∧ Rows sz R w a l xs ∧ l ≤ maxLen := by
 obtain ⟨fu, x, h⟩ := h
 rcases Go.Deep.open_slice ht h with ⟨rfl, _⟩ | ⟨a, len, cap, m, n, D, Pl, rfl, hb, hl, hm, hmm, rfl, hx⟩
 ·exact ⟨none, 0, 0, [], rfl, Rows.nil _ _ _ _, by simp⟩
 rw [hs] at hx
 have hlm : len ≤ m := by rw [hmm]; split <;> omega
 rcases Nat.eq_zero_or_pos len with h0 | h0
 ·subst h0
  exact ⟨some a, 0, cap, [], rfl, Rows.nil _ _ _ _, by simp⟩
 have hspot : a.spot = none := by
  obtain ⟨cs', h1, _⟩ := hx 0 (by omega)
  obtain ⟨_, hlen, hc⟩ := World.cells?_some h1
  have := hc 0 hpos
  rw [Nat.zero_mul, add_mk0, add_mk0, List.getElem?_eq_getElem (by omega)] at this
  exact World.cell?_spot this
 obtain ⟨b, o, s⟩ := a
 simp only at hspot
 subst hspot
 have each : ∀ i, i < len → ∃ x : α, R w (fun j => w.cell? ⟨b, o + i * sz + j, none⟩) x := fun i hi => by
  obtain ⟨cs', h1, h2⟩ := hx i (by omega)
  obtain ⟨_, hlen, hc⟩ := World.cells?_some h1
  refine hR _ cs' hlen (fun j hj => ?_) ⟨n, _, h2⟩
  have := hc j hj
  rw [add_mk, add_mk] at this
  exact this
 have : ∃ xs : List α, xs.length = len ∧ ∀ i x, xs[i]? = some x → R w (fun j => w.cell? ⟨b, o + i * sz + j, none⟩) x := by
  clear hx hlm hmm hl h
  induction len with
  | zero => omega
  | succ k ih =>
   obtain ⟨x, hxk⟩ := each k (by omega)
   rcases Nat.eq_zero_or_pos k with hk | hk
   ·subst hk
    refine ⟨[x], rfl, fun i y hy => ?_⟩
    have : i = 0 := by have := (List.getElem?_eq_some_iff.1 hy).1; simp at this; omega
    subst this; simp at hy; subst hy; exact hxk
   ·obtain ⟨xs, hl, hxs⟩ := ih hk (fun i hi => each i (by omega))
    refine ⟨xs ++ [x], by simp [hl], fun i y hy => ?_⟩
    rcases Nat.lt_or_ge i xs.length with h | h
    ·rw [List.getElem?_append_left h] at hy; exact hxs i y hy
    ·rw [List.getElem?_append_right h] at hy
     have hi : i = k := by have := (List.getElem?_eq_some_iff.1 hy).1; simp at this; omega
     subst hi
     rw [hl, Nat.sub_self] at hy; simp at hy; subst hy; exact hxk
 obtain ⟨xs, hl', hxs⟩ := this
 exact ⟨_, len, cap, xs, rfl, ⟨hl'.symm, .inr ⟨b, o, rfl, hxs⟩⟩, by omega⟩
end
end Go.V
