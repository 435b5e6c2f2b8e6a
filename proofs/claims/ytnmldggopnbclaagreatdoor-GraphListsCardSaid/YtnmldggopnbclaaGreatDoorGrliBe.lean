/- A part of the proof: plain forms of functions and laws about them. -/
import Derived.Test.YtnmldggopnbclaaGreatDoorGrliBd
import Derived.SizedLaws
namespace Go.V
open Go.RowKit (Below)
def Rz {H : Type} (enc : TypeId × Value → H) (P : Program) (w : World) (t : TypeId) (cs : List Value) : Prop :=
 ∃ fuel x, DataW.trod enc P w 0 (fun _ => true) true fuel t cs = some x ∧ ∀ n ∈ x.1.weights P t, n ≤ reachBytes
section
variable {H : Type} {enc : TypeId × Value → H} {P : Program} {w : World}
theorem Rz.of {ts : List TypeId} {ds : List (DataW H)} (hz : (DataW.weightsEach P ts ds).all (· ≤ reachBytes) = true) {j : Nat} {t : TypeId} {v : Value} {d : DataW H} {ps : List MemPlace} (ht : ts[j]? = some t) (hd : ds[j]? = some d)
  (h : DataW.Trod enc P w 0 (fun _ => true) true t v d ps) : Rz enc P w t v.cells.toList := by
 obtain ⟨f, hf⟩ := h
 exact ⟨f, _, hf, fun n hn => by simpa using List.all_eq_true.1 hz n (DataW.weights_mem_each ht hd n hn)⟩
theorem Rz.int {t : TypeId} {k : IntKind} {cs : List Value} (ht : P.underlying t = some (.int k)) (h : Rz enc P w t cs) : ∃ n, cs = [.int k n] ∧ (Lit.int k n).wf = true := by
 obtain ⟨f, x, h, _⟩ := h
 exact Rd.int ht ⟨f, x, h⟩
theorem Rz.string {t : TypeId} {cs : List Value} (ht : P.underlying t = some .string) (h : Rz enc P w t cs) : ∃ s : ByteArray, cs = [.string s] ∧ s.size ≤ maxLen := by
 obtain ⟨f, x, h, _⟩ := h
 exact Rd.string ht ⟨f, x, h⟩
theorem Rz.fld {t : TypeId} {fs : Array Field} {cs : List Value} (ht : P.underlying t = some (.struct fs)) (h : Rz enc P w t cs) (i : Nat) {f : Field} (hf : fs[i]? = some f) {n : Nat} (hn : P.cellsOf f.type = n) : Rz enc P w f.type ((cs.drop f.offset).take n) := by
 obtain ⟨fu, x, h, hz⟩ := h
 obtain ⟨xs, m, _, rfl, hl, hlen, hff⟩ := DataW.trod_struct ht h
 have hi' : i < fs.size := (Array.getElem?_eq_some_iff.1 hf).1
 have hi2 : i < xs.length := by rw [hlen]; exact hi'
 have e := hff i f hf
 rw [List.getElem?_eq_getElem hi2, hn] at e
 refine ⟨m, _, e, fun k hk => hz k ?_⟩
 simp only [DataW.weights, ht]
 exact DataW.weights_mem_each (j := i) (by rw [List.getElem?_map, Array.getElem?_toList, hf]; rfl) (by rw [List.getElem?_map, List.getElem?_eq_getElem hi2]; rfl) k hk
theorem Rz.len {t : TypeId} {fs : Array Field} {cs : List Value} (ht : P.underlying t = some (.struct fs)) (h : Rz enc P w t cs) : cs.length = P.cellsOf t := by
 obtain ⟨fu, x, h, _⟩ := h
 exact (Rd.struct ht ⟨fu, x, h⟩).1
theorem weightsAll_mem {e : TypeId} : ∀ {ds : List (DataW H)} {d : DataW H}, d ∈ ds → ∀ n ∈ d.weights P e, n ∈ DataW.weightsAll P e ds
 | d0 :: ds, d, h, n, hn => by
  simp only [DataW.weightsAll, List.mem_append]
  rcases List.mem_cons.1 h with rfl | h
  ·exact .inl hn
  ·exact .inr (weightsAll_mem h n hn)
theorem Rz.slice {α : Type} {R : World → Cells → α → Prop} {t e : TypeId} {sz : Nat} {cs : List Value} (ht : P.underlying t = some (.slice e)) (hs : P.cellsOf e = sz) (hpos : 0 < sz)
  (hR : ∀ (f : Nat → Option Value) (cs' : List Value), cs'.length = sz → (∀ j, j < sz → f j = cs'[j]?) → Rz enc P w e cs' → ∃ x, R w f x) (h : Rz enc P w t cs) :
  ∃ a l c xs, cs = [.slice a l c] ∧ Rows sz R w a l xs ∧ l ≤ maxLen ∧ l * P.bytesOf e ≤ reachBytes ∧ l ≤ c := by
 obtain ⟨fu, x, h, hz⟩ := h
 rcases Go.Deep.open_slice ht h with ⟨rfl, _⟩ | ⟨a, len, cap, m, n, D, Pl, rfl, hb, hl, hm, hmm, rfl, hx⟩
 ·exact ⟨none, 0, 0, [], rfl, Rows.nil _ _ _ _, by simp, by simp, by simp⟩
 simp only [DataW.weights, ht] at hz
 have hbytes : len * P.bytesOf e ≤ reachBytes := by
  have := hz _ List.mem_cons_self
  simp only [List.length_map, List.length_range] at this
  exact Nat.le_trans (Nat.mul_le_mul_right _ (by omega)) this
 have hel : ∀ i, i < len → ∀ n ∈ (D i).weights P e, n ≤ reachBytes := fun i hi n hn => hz n (List.mem_cons_of_mem _ (List.mem_append_left _ (weightsAll_mem (List.mem_map.2 ⟨i, List.mem_range.2 hi, rfl⟩) n hn)))
 rw [hs] at hx
 have hlm : len ≤ m := by rw [hmm]; split <;> omega
 rcases Nat.eq_zero_or_pos len with h0 | h0
 ·subst h0
  exact ⟨some a, 0, cap, [], rfl, Rows.nil _ _ _ _, by simp, by simp, by simp⟩
 have hspot : a.spot = none := by
  obtain ⟨cs', h1, _⟩ := hx 0 (by omega)
  obtain ⟨_, hlen, hc⟩ := World.cells?_some h1
  have := hc 0 hpos
  rw [Nat.zero_mul, add_mk0, add_mk0, List.getElem?_eq_getElem (by omega)] at this
  exact World.cell?_spot this
 obtain ⟨b, o, s⟩ := a
 simp only at hspot
 subst hspot
 have each : ∀ i, i < len → ∃ x : α, R w (fun j => w.cell? ⟨b, o + i * sz + j, none⟩) x := fun i hi => by
  obtain ⟨cs', h1, h2⟩ := hx i (by omega)
  obtain ⟨_, hlen, hc⟩ := World.cells?_some h1
  refine hR _ cs' hlen (fun j hj => ?_) ⟨n, _, h2, hel i hi⟩
  have := hc j hj
  rw [add_mk, add_mk] at this
  exact this
 have : ∃ xs : List α, xs.length = len ∧ ∀ i x, xs[i]? = some x → R w (fun j => w.cell? ⟨b, o + i * sz + j, none⟩) x := by
  clear hx hlm hmm hl h hz hbytes hel
  induction len with
  | zero => omega
  | succ k ih =>
   obtain ⟨x, hxk⟩ := each k (by omega)
   rcases Nat.eq_zero_or_pos k with hk | hk
   ·subst hk
    refine ⟨[x], rfl, fun i y hy => ?_⟩
    have : i = 0 := by have := (List.getElem?_eq_some_iff.1 hy).1; simp at this; omega
    subst this; simp at hy; subst hy; exact hxk
   ·obtain ⟨xs, hl, hxs⟩ := ih hk (fun i hi => each i (by omega))
    refine ⟨xs ++ [x], by simp [hl], fun i y hy => ?_⟩
    rcases Nat.lt_or_ge i xs.length with h | h
    ·rw [List.getElem?_append_left h] at hy; exact hxs i y hy
    ·have hi := (List.getElem?_eq_some_iff.1 hy).1
     simp at hi
     have : i = xs.length := by omega
     subst this
     rw [List.getElem?_concat_length] at hy; cases hy
     rw [hl]; exact hxk
 obtain ⟨xs, hlx, hxs⟩ := this
 exact ⟨_, len, cap, xs, rfl, ⟨hlx.symm, .inr ⟨b, o, rfl, hxs⟩⟩, by omega, hbytes, hl⟩
end
end Go.V
