/- A part of the proof: plain forms of functions and laws about them. -/
import Derived.Test.YtkneoodgoadpaaaGreatDoorNnilB
import Derived.Deep.Upon
import Derived.Test.YtkneoodgoadpaaaGreatDoorProg
import Derived.KernelRfl
namespace Go.V
open Go.RowKit (Below)
abbrev Ka (ι : Type) := Nat → Option (ι × Nat × Nat)
structure KS (ι : Type) where
  ty : ι → TypeId
  sz : ι → Nat
  pos : ∀ k, 0 < sz k
abbrev OkF (ι : Type) := Ka ι → ι → Nat → Value → Prop
section
variable {ι : Type} {S : KS ι} {O O' : OkF ι} {κ κ' κ'' : Ka ι} {w w' w'' : World} {k : ι}
def Kle (κ κ' : Ka ι) : Prop := ∀ b k n u, κ b = some (k, n, u) → ∃ u', u ≤ u' ∧ κ' b = some (k, n, u')
structure OkM (O : OkF ι) : Prop where
  mono : ∀ κ κ' k j v, Kle κ κ' → O κ k j v → O κ' k j v
  one : ∀ κ k j v, O κ k j v → v.oneCell' = true
def Ty (S : KS ι) (O : OkF ι) (κ : Ka ι) (w : World) : Prop :=
  ∀ b k n u, κ b = some (k, n, u) → ∃ cs : Array Value, Blk w b cs (S.ty k) ∧ cs.size = n ∧ u ≤ n ∧ ∀ i v, i < u → cs[i]? = some v → O κ k (i % S.sz k) v
def Sl (S : KS ι) (κ : Ka ι) (k : ι) (s : SL) : Prop :=
  s = (none, 0, 0) ∨ ∃ g j n u, s.1 = some ⟨g, j * S.sz k, none⟩ ∧ κ g = some (k, n, u) ∧ s.2.1 ≤ s.2.2 ∧ (j + s.2.1) * S.sz k ≤ u ∧ (j + s.2.2) * S.sz k ≤ n
structure Pk (X : ι → Prop) (κ κ' : Ka ι) (w w' : World) : Prop where
  os : w'.os = w.os
  tape : w'.tape = w.tape
  output : w'.output = w.output
  size : w.heap.size ≤ w'.heap.size
  block : ∀ b, b < w.heap.size → κ b = none → w'.heap[b]? = w.heap[b]?
  free : ∀ b, b < w.heap.size → κ b = none → κ' b = none
  le : Kle κ κ'
  keep : ∀ b k n u, κ b = some (k, n, u) → ¬ X k → w'.heap[b]? = w.heap[b]?
theorem Kle.refl (κ : Ka ι) : Kle κ κ := fun _ _ _ u h => ⟨u, Nat.le_refl _, h⟩
theorem Kle.trans (h : Kle κ κ') (h' : Kle κ' κ'') : Kle κ κ'' := fun b k n u e => by
  obtain ⟨u1, l1, e1⟩ := h b k n u e
  obtain ⟨u2, l2, e2⟩ := h' b k n u1 e1
  exact ⟨u2, Nat.le_trans l1 l2, e2⟩
theorem Ty.lt (h : Ty S O κ w) {b n u : Nat} (e : κ b = some (k, n, u)) : b < w.heap.size := by
  obtain ⟨cs, hb, _⟩ := h b k n u e; exact hb.lt
theorem Ty.none_top (h : Ty S O κ w) {b : Nat} (hb : w.heap.size ≤ b) : κ b = none := by
  cases e : κ b with
  | none => rfl
  | some x => obtain ⟨k, n, u⟩ := x; have := h.lt e; omega
theorem Ty.frame (h : Ty S O κ w) (g : ∀ b, κ b ≠ none → w'.heap[b]? = w.heap[b]?) : Ty S O κ w' := fun b k n u e => by
  obtain ⟨cs, hb, r⟩ := h b k n u e
  exact ⟨cs, (g b (by rw [e]; simp)).trans hb, r⟩
theorem Ty.ext (h : Ty S O κ w) (x : Ext w w') : Ty S O κ w' := fun b k n u e => by
  obtain ⟨cs, hb, r⟩ := h b k n u e
  exact ⟨cs, hb.ext x, r⟩
theorem Ty.but {b : Nat} (h : Ty S O κ w) (x : But b w w') (hb : κ b = none) : Ty S O κ w' := h.frame fun b' h' => x.block b' fun e => h' (e ▸ hb)
theorem Ty.weak (h : Ty S O κ w) (g : ∀ k j v, O κ k j v → O' κ k j v) : Ty S O' κ w := fun b k n u e => by
  obtain ⟨cs, hb, h1, h2, r⟩ := h b k n u e
  exact ⟨cs, hb, h1, h2, fun i v hi hv => g _ _ _ (r i v hi hv)⟩
theorem Sl.le {s : SL} (h : Sl S κ k s) (l : Kle κ κ') : Sl S κ' k s := by
  rcases h with h | ⟨g, j, n, u, h1, h2, h3, h4, h5⟩
  · exact .inl h
  · obtain ⟨u', hu, h2'⟩ := l _ _ _ _ h2
    exact .inr ⟨g, j, n, u', h1, h2', h3, Nat.le_trans h4 hu, h5⟩
theorem Sl.nil (S : KS ι) (κ : Ka ι) (k : ι) : Sl S κ k (none, 0, 0) := .inl rfl
theorem Pk.refl (X : ι → Prop) (κ : Ka ι) (w : World) : Pk X κ κ w w := ⟨rfl, rfl, rfl, Nat.le_refl _, fun _ _ _ => rfl, fun _ _ h => h, Kle.refl κ, fun _ _ _ _ _ _ => rfl⟩
theorem Pk.ofExt (X : ι → Prop) (h : Ty S O κ w) (x : Ext w w') : Pk X κ κ w w' := ⟨x.os, x.tape, x.output, x.size, fun b hb _ => x.block b hb, fun _ _ h => h, Kle.refl κ, fun b _ _ _ e _ => x.block b (h.lt e)⟩
theorem Pk.trans {X : ι → Prop} (h : Pk X κ κ' w w') (g : Pk X κ' κ'' w' w'') : Pk X κ κ'' w w'' where
  os := g.os.trans h.os
  tape := g.tape.trans h.tape
  output := g.output.trans h.output
  size := Nat.le_trans h.size g.size
  block := fun b hb e => (g.block b (Nat.lt_of_lt_of_le hb h.size) (h.free b hb e)).trans (h.block b hb e)
  free := fun b hb e => g.free b (Nat.lt_of_lt_of_le hb h.size) (h.free b hb e)
  le := h.le.trans g.le
  keep := fun b k n u e hX => by
    obtain ⟨u', _, e'⟩ := h.le b k n u e
    exact (g.keep b k n u' e' hX).trans (h.keep b k n u e hX)
theorem Pk.mono {X Y : ι → Prop} (h : Pk X κ κ' w w') (g : ∀ k, X k → Y k) : Pk Y κ κ' w w' := ⟨h.os, h.tape, h.output, h.size, h.block, h.free, h.le, fun b k n u e hY => h.keep b k n u e fun hX => hY (g k hX)⟩
theorem Pk.blk {X : ι → Prop} (h : Pk X κ κ' w w') {b t : Nat} {cs : Array Value} (hb : Blk w b cs t) (e : κ b = none) : Blk w' b cs t := (h.block b hb.lt e).trans hb
theorem Pk.but {X : ι → Prop} {b : Nat} (h : Pk X κ κ' w w') (x : But b w' w'') (hb : w.heap.size ≤ b) (ht : κ b = none) : Pk X κ κ' w w'' :=
  ⟨x.os.trans h.os, x.tape.trans h.tape, x.output.trans h.output, by rw [x.size]; exact h.size, fun i hi e => (x.block i (by omega)).trans (h.block i hi e), h.free, h.le, fun i k n u e hX => by
    refine (x.block i fun hib => ?_).trans (h.keep i k n u e hX)
    rw [hib, ht] at e; cases e⟩
theorem Pk.butK {X : ι → Prop} {b n u : Nat} (h : Pk X κ κ' w w') (x : But b w' w'') (e : κ' b = some (k, n, u)) (hX : X k) : Pk X κ κ' w w'' where
  os := x.os.trans h.os
  tape := x.tape.trans h.tape
  output := x.output.trans h.output
  size := by rw [x.size]; exact h.size
  block := fun i hi e2 => by
    refine (x.block i fun hib => ?_).trans (h.block i hi e2)
    have := h.free i hi e2; rw [hib, e] at this; cases this
  free := h.free
  le := h.le
  keep := fun i k2 n2 u2 e2 hX2 => by
    refine (x.block i fun hib => ?_).trans (h.keep i k2 n2 u2 e2 hX2)
    obtain ⟨u3, _, e3⟩ := h.le _ _ _ _ e2
    rw [hib, e] at e3; cases e3; exact hX2 hX
theorem Ty.cell (h : Ty S O κ w) {b n u i : Nat} (e : κ b = some (k, n, u)) (hi : i < u) : ∃ v, w.cell? ⟨b, i, none⟩ = some v ∧ O κ k (i % S.sz k) v := by
  obtain ⟨cs, hb, h1, h2, r⟩ := h b k n u e
  have hi' : i < cs.size := by omega
  exact ⟨cs[i], by rw [hb.cell, Array.getElem?_eq_getElem hi'], r i _ hi (Array.getElem?_eq_getElem hi')⟩
theorem Sl.at_ {s : SL} (hs : Sl S κ k s) (h : Ty S O κ w) {i : Nat} (hi : i < s.2.1) : ∃ g o n u, s.1 = some ⟨g, o, none⟩ ∧ κ g = some (k, n, u) ∧
    ∀ j, j < S.sz k → o + i * S.sz k + j < u ∧ (o + i * S.sz k + j) % S.sz k = j ∧ ∃ v, w.cell? ⟨g, o + i * S.sz k + j, none⟩ = some v ∧ O κ k j v := by
  rcases hs with rfl | ⟨g, j0, n, u, h1, h2, h3, h4, h5⟩
  · simp at hi
  refine ⟨g, j0 * S.sz k, n, u, h1, h2, fun j hj => ?_⟩
  have e1 : j0 * S.sz k + i * S.sz k + j = (j0 + i) * S.sz k + j := by rw [Nat.add_mul]
  have e2 : (j0 + i + 1) * S.sz k ≤ (j0 + s.2.1) * S.sz k := Nat.mul_le_mul_right _ (by omega)
  rw [Nat.succ_mul] at e2
  have e3 : j0 * S.sz k + i * S.sz k + j < u := by rw [e1]; omega
  have e4 : (j0 * S.sz k + i * S.sz k + j) % S.sz k = j := by rw [e1, Nat.mul_comm, Nat.mul_add_mod, Nat.mod_eq_of_lt hj]
  obtain ⟨v, hv, ho⟩ := h.cell h2 e3
  rw [e4] at ho
  exact ⟨e3, e4, v, hv, ho⟩
theorem Ty.set (h : Ty S O κ w) {b n u i : Nat} {v : Value} (e : κ b = some (k, n, u)) (hi : i < u) (hv : O κ k (i % S.sz k) v) {F : World → Prop} (f : ∀ w', Ty S O κ w' → But b w w' → F w') : SetK w ⟨b, i, none⟩ v F := by
  obtain ⟨cs, hb, h1, h2, r⟩ := h b k n u e
  refine SetK.mk hb (by omega) fun w' hb' bu => f w' (fun b2 k2 n2 u2 e2 => ?_) bu
  by_cases hbb : b2 = b
  · subst hbb
    rw [e] at e2; cases e2
    refine ⟨_, hb', by simpa using h1, h2, fun i2 v2 hi2 hv2 => ?_⟩
    rw [Array.getElem?_setIfInBounds] at hv2
    split at hv2
    · rename_i hii; subst hii
      rw [if_pos (by omega)] at hv2; cases hv2; exact hv
    · exact r i2 v2 hi2 hv2
  · obtain ⟨cs2, hb2, r2⟩ := h b2 k2 n2 u2 e2
    exact ⟨cs2, bu.blk hb2 hbb, r2⟩
def Ka.put (κ : Ka ι) (b : Nat) (k : ι) (n u : Nat) : Ka ι := fun x => if x = b then some (k, n, u) else κ x
theorem Ka.put_same (κ : Ka ι) (b : Nat) (k : ι) (n u : Nat) : κ.put b k n u b = some (k, n, u) := by simp [Ka.put]
theorem Kle.put {b n u : Nat} (h : κ b = none) : Kle κ (κ.put b k n u) := fun b' k' n' u' e => ⟨u', Nat.le_refl _, by
  unfold Ka.put; rw [if_neg (fun hb => by rw [hb, h] at e; cases e)]; exact e⟩
theorem Kle.grow {b n u u' : Nat} (h : κ b = some (k, n, u)) (hu : u ≤ u') : Kle κ (κ.put b k n u') := fun b2 k2 n2 u2 e => by
  by_cases hb : b2 = b
  · subst hb; rw [h] at e; cases e; exact ⟨u', hu, Ka.put_same _ _ _ _ _⟩
  · exact ⟨u2, Nat.le_refl _, by unfold Ka.put; rw [if_neg hb]; exact e⟩
theorem Ty.put (hM : OkM O) (h : Ty S O κ w) {b u : Nat} {cs : Array Value} (hb : Blk w b cs (S.ty k)) (e : κ b = none) (hu : u ≤ cs.size) (hO : ∀ i v, i < u → cs[i]? = some v → O (κ.put b k cs.size u) k (i % S.sz k) v) : Ty S O (κ.put b k cs.size u) w := fun b2 k2 n2 u2 e2 => by
  unfold Ka.put at e2
  split at e2
  · rename_i hbb; subst hbb; cases e2
    exact ⟨cs, hb, rfl, hu, hO⟩
  · obtain ⟨cs2, h1, h2, h3, r⟩ := h b2 k2 n2 u2 e2
    exact ⟨cs2, h1, h2, h3, fun i v hi hv => hM.mono _ _ _ _ _ (Kle.put e) (r i v hi hv)⟩
theorem Pk.put {X : ι → Prop} {b n u : Nat} (h : Pk X κ κ' w w') (hb : w.heap.size ≤ b) (e : κ' b = none) : Pk X κ (κ'.put b k n u) w w' :=
  ⟨h.os, h.tape, h.output, h.size, h.block, fun i hi e2 => by unfold Ka.put; rw [if_neg (by omega)]; exact h.free i hi e2, h.le.trans (Kle.put e), h.keep⟩
theorem Ty.new (hM : OkM O) (h : Ty S O κ w) (k : ι) {cs : Array Value} (hO : ∀ κ' i v, Kle κ κ' → cs[i]? = some v → O κ' k (i % S.sz k) v) {X : ι → Prop} {F : Addr → World → Prop}
    (f : ∀ b w' κ', b = w.heap.size → κ' b = some (k, cs.size, cs.size) → Ty S O κ' w' → Pk X κ κ' w w' → F ⟨b, 0, none⟩ w') : AllocK w cs (S.ty k) F :=
  AllocK.mk fun b w' hb hB hx => by
    have h' := h.ext hx
    have e : κ b = none := h.none_top (by omega)
    exact f b w' (κ.put b k cs.size cs.size) hb (Ka.put_same _ _ _ _ _) (h'.put hM hB e (Nat.le_refl _) fun i v _ hv => hO _ i v (Kle.put e) hv) ((Pk.ofExt X h hx).put (by omega) e)
theorem Sl.cut {a : Option Addr} {l c lo hi : Nat} (h : Sl S κ k (a, l, c)) (h1 : lo ≤ hi) (h2 : hi ≤ l) : Sl S κ k (if c = lo then a else a.map (·.add (lo * S.sz k)), hi - lo, c - lo) := by
  rcases h with h | ⟨g, j, n, u, e1, e2, e3, e4, e5⟩
  · cases h; left; simp only [Prod.mk.injEq]; refine ⟨by split <;> rfl, by omega, by omega⟩
  · simp only at e1 e3 e4 e5; subst e1
    by_cases hc : c = lo
    · rw [if_pos hc]
      refine .inr ⟨g, j, n, u, rfl, e2, by show hi - lo ≤ c - lo; omega, ?_, ?_⟩
      · exact Nat.le_trans (Nat.mul_le_mul_right _ (by show j + (hi - lo) ≤ j + l; omega)) e4
      · exact Nat.le_trans (Nat.mul_le_mul_right _ (by show j + (c - lo) ≤ j + c; omega)) e5
    · rw [if_neg hc]
      refine .inr ⟨g, j + lo, n, u, by simp [add_mk, Nat.add_mul], e2, by show hi - lo ≤ c - lo; omega, ?_, ?_⟩
      · exact Nat.le_trans (Nat.mul_le_mul_right _ (by show j + lo + (hi - lo) ≤ j + l; omega)) e4
      · exact Nat.le_trans (Nat.mul_le_mul_right _ (by show j + lo + (c - lo) ≤ j + c; omega)) e5
theorem Sl.news (h : Ty S O κ w) {a : Option Addr} {l c : Nat} (hs : Sl S κ k (a, l, c)) : (a = none ∧ l = 0) ∨ ∃ (p : Addr) (news : List Value), a = some p ∧ news.length = l * S.sz k ∧
    (∀ j u, news[j]? = some u → w.cell? (p.add j) = some u) ∧ ∀ j u, news[j]? = some u → O κ k (j % S.sz k) u := by
  rcases hs with hs | ⟨g, j0, n, u, e1, e2, e3, e4, e5⟩
  · cases hs; exact .inl ⟨rfl, rfl⟩
  · simp only at e1 e3 e4 e5; subst e1
    obtain ⟨cs, hb, h1, h2, r⟩ := h g k n u e2
    rw [Nat.add_mul] at e4
    refine .inr ⟨_, (cs.toList.drop (j0 * S.sz k)).take (l * S.sz k), rfl, by rw [List.length_take, List.length_drop, Array.length_toList]; omega, fun j v hv => ?_, fun j v hv => ?_⟩
    · have hj : j < l * S.sz k := by have := (List.getElem?_eq_some_iff.1 hv).1; rw [List.length_take] at this; omega
      rw [List.getElem?_take_of_lt hj, List.getElem?_drop, Array.getElem?_toList] at hv
      rw [add_mk, hb.cell]; exact hv
    · have hj : j < l * S.sz k := by have := (List.getElem?_eq_some_iff.1 hv).1; rw [List.length_take] at this; omega
      rw [List.getElem?_take_of_lt hj, List.getElem?_drop, Array.getElem?_toList] at hv
      have := r _ v (by omega) hv
      rwa [Nat.mul_comm, Nat.mul_add_mod] at this
theorem Sl.ofOwn (hM : OkM O) (h : Ty S O κ w) {v : Value} {n : Nat} {xs : List Value} (ho : w'.ownsRow w.heap.size (S.ty k) (S.sz k) v n xs) (hg : w.grownBy w' none) (hO : ∀ j u, xs[j]? = some u → O κ k (j % S.sz k) u) :
    ∃ s' κ', v = .slice s'.1 s'.2.1 s'.2.2 ∧ Ty S O κ' w' ∧ Sl S κ' k s' ∧ s'.2.1 = n ∧ Pk (· = k) κ κ' w w' := by
  have hx : Ext w w' := Ext.grown hg rfl
  obtain ⟨hl, ho⟩ := ho
  rcases ho with ⟨rfl, h0⟩ | ⟨g, cap, cur, rfl, hbg, hg2, h3, h4, h5, h6⟩
  · have hn : n = 0 := by
      have := S.pos k
      rw [h0] at hl
      rcases Nat.eq_zero_or_pos n with h | h
      · exact h
      · have := Nat.mul_pos h this; simp at hl; omega
    exact ⟨(none, 0, 0), κ, rfl, h.ext hx, .inl rfl, hn.symm, Pk.ofExt _ h hx⟩
  · have h' := h.ext hx
    have e : κ g = none := h.none_top hbg
    have hle : n * S.sz k ≤ cur.size := by rw [h5]; exact Nat.mul_le_mul_right _ h3
    refine ⟨(some ⟨g, 0, none⟩, n, cap), κ.put g k cur.size (n * S.sz k), rfl, h'.put hM hg2 e hle fun i u hi hu => ?_, .inr ⟨g, 0, cur.size, n * S.sz k, by simp, Ka.put_same _ _ _ _ _, h3, by simp, by simp [h5]⟩, rfl, (Pk.ofExt _ h hx).put hbg e⟩
    refine hM.mono _ _ _ _ _ (Kle.put e) (hO i u ?_)
    rw [← h6, List.getElem?_take_of_lt hi, Array.getElem?_toList]; exact hu
theorem Sl.appendC {P : Program} {t ty bytes : Nat} (hM : OkM O) (H : SlT P t (S.ty k) (S.sz k) bytes) (h : Ty S O κ w) {a : Option Addr} {l c : Nat} (hs : Sl S κ k (a, l, c)) (ad : Addr) (m c2 : Nat) (news : List Value) (hl : news.length = m * S.sz k)
    (hc : ∀ j u, news[j]? = some u → w.cell? (ad.add j) = some u) (hO : ∀ j u, news[j]? = some u → O κ k (j % S.sz k) u) (hlen : (l + m) * bytes ≤ 140737488355328) :
    ∃ a' c' w' κ', Sem.run P (Builtin.append_ #[t, t] ty #[.slice a l c, .slice (some ad) m c2]) w = .ok (.slice a' (l + m) c') w' ∧ Ty S O κ' w' ∧ Sl S κ' k (a', l + m, c') ∧ Pk (· = k) κ κ' w w' := by
  obtain ⟨i, z, hi, hz, hsz, hby, hzs⟩ := H.info
  have h1 : ∀ u ∈ news, u.oneCell' = true := fun u hu => by
    obtain ⟨j, hj⟩ := List.getElem?_of_mem hu
    exact hM.one _ _ _ _ (hO j u hj)
  have h63 : l + m ≤ maxLen := by
    have := Nat.le_mul_of_pos_right (l + m) H.posB
    simp only [maxLen]; omega
  have fin : ∀ {v : Value} {w' : World} {xs : List Value}, Sem.run P (Builtin.append_ #[t, t] ty #[.slice a l c, .slice (some ad) m c2]) w = .ok v w' → w'.ownsRow w.heap.size (S.ty k) (S.sz k) v (l + m) xs → w.grownBy w' none → (∀ j u, xs[j]? = some u → O κ k (j % S.sz k) u) →
      ∃ a' c' w' κ', Sem.run P (Builtin.append_ #[t, t] ty #[.slice a l c, .slice (some ad) m c2]) w = .ok (.slice a' (l + m) c') w' ∧ Ty S O κ' w' ∧ Sl S κ' k (a', l + m, c') ∧ Pk (· = k) κ κ' w w' := by
    intro v w' xs hr ho hg hx
    obtain ⟨⟨a', l', c'⟩, κ', rfl, h2, h3, h4, h5⟩ := Sl.ofOwn hM h ho hg hx
    simp only at h4; subst h4
    exact ⟨a', c', w', κ', hr, h2, h3, h5⟩
  rcases hs with hs | ⟨g, j0, n, u, e1, e2, e3, e4, e5⟩
  · cases hs
    obtain ⟨v', w', q1, q2, q3, _, _⟩ := run_append_own_at (P := P) w w.heap.size t ty (S.ty k) i z (S.sz k) bytes H.under hi hz hsz hby hzs H.pos (.slice none 0 0) 0 [] (World.ownsRow_nil _ _ _ _) ad m c2 news hl hc h1 (by omega) (by simpa using hlen) (Nat.le_refl _)
    exact fin q1 (by simpa using q2) q3 (by simpa using hO)
  · simp only at e1 e3 e4 e5; subst e1
    obtain ⟨cs, hb, f1, f2, r⟩ := h g k n u e2
    have e4' := e4; have e5' := e5
    rw [Nat.add_mul] at e4' e5'
    by_cases hroom : l + m ≤ c
    · have hm : (l + m) * S.sz k ≤ c * S.sz k := Nat.mul_le_mul_right _ hroom
      rw [Nat.add_mul] at hm
      have hr := run_append_room_cells (P := P) w t ty (S.ty k) i H.under hi g (j0 * S.sz k) l c ad m c2 news (by rw [hsz]; exact hl) hc h1 hroom (fun j hj => by
        rw [hsz, hb.cell, Array.getElem?_eq_getElem (by omega)]; rfl) (fun j hj => hb.frozen _)
      rw [hsz] at hr
      obtain ⟨hb', bu⟩ := setCells_blk (g := g) (t := S.ty k) news w cs (j0 * S.sz k + l * S.sz k) hb
      refine ⟨_, _, _, κ.put g k n (max u ((j0 + (l + m)) * S.sz k)), hr, fun b2 k2 n2 u2 hk2 => ?_, .inr ⟨g, j0, n, _, rfl, Ka.put_same _ _ _ _ _, hroom, Nat.le_max_right _ _, e5⟩, ?_⟩
      · have hle := Kle.grow e2 (Nat.le_max_left u ((j0 + (l + m)) * S.sz k))
        unfold Ka.put at hk2
        split at hk2
        · rename_i hbb; subst hbb; cases hk2
          refine ⟨_, hb', by rw [putL_size]; exact f1, ?_, fun i2 v2 hi2 hv2 => ?_⟩
          · rw [Nat.max_le]; refine ⟨f2, Nat.le_trans (Nat.mul_le_mul_right _ ?_) e5⟩; omega
          · refine hM.mono _ _ _ _ _ hle ?_
            rw [putL_get _ _ _ (by omega)] at hv2
            split at hv2
            · rename_i hin
              have := hO _ _ hv2
              have e6 : i2 = (j0 + l) * S.sz k + (i2 - (j0 * S.sz k + l * S.sz k)) := by rw [Nat.add_mul]; omega
              rw [e6, Nat.mul_comm, Nat.mul_add_mod]; exact this
            · rename_i hin
              refine r i2 v2 ?_ hv2
              have : (j0 + (l + m)) * S.sz k = j0 * S.sz k + l * S.sz k + m * S.sz k := by rw [Nat.add_mul, Nat.add_mul]; omega
              omega
        · obtain ⟨cs2, p1, p2, p3, r2⟩ := h b2 k2 n2 u2 hk2
          exact ⟨cs2, bu.blk p1 (by rename_i hne; exact hne), p2, p3, fun i2 v2 hi2 hv2 => hM.mono _ _ _ _ _ hle (r2 i2 v2 hi2 hv2)⟩
      · refine ⟨bu.os, bu.tape, bu.output, by rw [bu.size]; exact Nat.le_refl _, fun b hb2 hn => bu.block b (fun e => by rw [e, e2] at hn; cases hn), fun b hb2 hn => ?_, Kle.grow e2 (Nat.le_max_left _ _), fun b k2 n2 u2 hk2 hX => bu.block b (fun e => ?_)⟩
        · unfold Ka.put; rw [if_neg (fun e => by rw [e, e2] at hn; cases hn)]; exact hn
        · rw [e, e2] at hk2; cases hk2; exact hX rfl
    · have holds : ∀ j u, ((cs.toList.drop (j0 * S.sz k)).take (l * S.sz k))[j]? = some u → w.cell? ((⟨g, j0 * S.sz k, none⟩ : Addr).add j) = some u := fun j v hv => by
        have hj : j < l * S.sz k := by have := (List.getElem?_eq_some_iff.1 hv).1; rw [List.length_take] at this; omega
        rw [List.getElem?_take_of_lt hj, List.getElem?_drop, Array.getElem?_toList] at hv
        rw [add_mk, hb.cell]; exact hv
      have hol : ((cs.toList.drop (j0 * S.sz k)).take (l * S.sz k)).length = l * S.sz k := by rw [List.length_take, List.length_drop, Array.length_toList]; omega
      obtain ⟨v', w', q1, q2, q3⟩ := run_append_arg_grows (P := P) w t ty (S.ty k) i z (S.sz k) bytes H.under hi hz hsz hby hzs H.pos ⟨g, j0 * S.sz k, none⟩ l c _ hol holds ad m c2 news hl hc (by omega) h63 hlen
      refine fin q1 q2 q3 fun j v hv => ?_
      rcases Nat.lt_or_ge j (l * S.sz k) with hj | hj
      · rw [List.getElem?_append_left (by rw [hol]; exact hj), List.getElem?_take_of_lt hj, List.getElem?_drop, Array.getElem?_toList] at hv
        have := r _ v (by omega) hv
        rwa [Nat.mul_comm, Nat.mul_add_mod] at this
      · rw [List.getElem?_append_right (by rw [hol]; exact hj), hol] at hv
        have := hO _ v hv
        have e6 : j = l * S.sz k + (j - l * S.sz k) := by omega
        rw [e6, Nat.mul_comm l, Nat.mul_add_mod, Nat.mul_comm (S.sz k)]; exact this
theorem Sl.push {P : Program} {t ty te bytes : Nat} (hM : OkM O) (H : SlT P t (S.ty k) (S.sz k) bytes) (h : Ty S O κ w) {a : Option Addr} {l c : Nat} (hs : Sl S κ k (a, l, c)) {cs : Array Value} (hcs : cs.size = S.sz k)
    (hO : ∀ j v, cs[j]? = some v → O κ k j v) (hlen : (l + 1) * bytes ≤ 140737488355328) {F : Option Addr → Nat → Nat → World → Prop}
    (f : ∀ a' c' w' κ', Ty S O κ' w' → Sl S κ' k (a', l + 1, c') → Pk (· = k) κ κ' w w' → F a' (l + 1) c' w') :
    AllocK w cs te fun b w1 => ∃ a' l' c' w2, Sem.run P (Builtin.append_ #[t, t] ty #[.slice a l c, .slice (some b) 1 1]) w1 = .ok (.slice a' l' c') w2 ∧ F a' l' c' w2 := by
  refine AllocK.mk fun b w1 hb hB hx => ?_
  obtain ⟨a', c', w', κ', q1, q2, q3, q4⟩ := Sl.appendC (ty := ty) hM H (h.ext hx) hs ⟨b, 0, none⟩ 1 1 cs.toList (by simp [hcs]) (fun j u hj => by rw [add_mk, Nat.zero_add, hB.cell, ← Array.getElem?_toList]; exact hj)
    (fun j u hj => by
      have hj2 : j < S.sz k := by rw [← hcs, ← Array.length_toList]; exact (List.getElem?_eq_some_iff.1 hj).1
      rw [Nat.mod_eq_of_lt hj2]; exact hO j u (by rw [← Array.getElem?_toList]; exact hj)) hlen
  exact ⟨a', _, c', w', q1, f a' c' w' κ' q2 q3 ((Pk.ofExt _ h hx).trans q4)⟩
theorem Sl.append {P : Program} {t ty bytes : Nat} (hM : OkM O) (H : SlT P t (S.ty k) (S.sz k) bytes) (h : Ty S O κ w) {a : Option Addr} {l c : Nat} (hs : Sl S κ k (a, l, c)) {a2 : Option Addr} {m c2 : Nat} (hs2 : Sl S κ k (a2, m, c2)) (hlen : (l + m) * bytes ≤ 140737488355328) :
    ∃ a' c' w' κ', Sem.run P (Builtin.append_ #[t, t] ty #[.slice a l c, .slice a2 m c2]) w = .ok (.slice a' (l + m) c') w' ∧ Ty S O κ' w' ∧ Sl S κ' k (a', l + m, c') ∧ Pk (· = k) κ κ' w w' := by
  rcases Sl.news h hs2 with ⟨rfl, rfl⟩ | ⟨p, news, rfl, hl, hc, hO⟩
  · obtain ⟨i, z, hi, hz, hsz, hby, hzs⟩ := H.info
    have hlc : l ≤ c := by rcases hs with hs | ⟨_, _, _, _, _, _, h3, _⟩; · cases hs; exact Nat.le_refl _
                           · exact h3
    refine ⟨a, c, w, κ, ?_, h, hs, Pk.refl _ _ _⟩
    cases a <;> simp [Builtin.append_, run_underlying H.under, sizeOf, typeInfo, hi, hlc, Builtin.lenOf, Builtin.firstCells, storeCells]
  · exact Sl.appendC hM H h hs p m c2 news hl hc hO hlen
theorem Sl.lc {a : Option Addr} {l c : Nat} (hs : Sl S κ k (a, l, c)) : l ≤ c := by
  rcases hs with hs | ⟨_, _, _, _, _, _, h3, _⟩
  · cases hs; exact Nat.le_refl _
  · exact h3
theorem Pk.exts {X Y : ι → Prop} (p : Pk Y κ κ' w w') (h : Ty S O κ w) (x : Ext w w') : Pk X κ κ' w w' := ⟨p.os, p.tape, p.output, p.size, p.block, p.free, p.le, fun b _ _ _ e _ => x.block b (h.lt e)⟩
theorem Sl.copy {P : Program} {t ty bytes : Nat} (hM : OkM O) (H : SlT P t (S.ty k) (S.sz k) bytes) {w0 : World} (h0 : Ty S O κ w0) (hx0 : Ext w0 w) {b : Nat} (hb : Blk w b #[] (S.ty k)) (hb0 : w0.heap.size ≤ b) {a2 : Option Addr} {m c2 : Nat} (hs2 : Sl S κ k (a2, m, c2)) (hlen : m * bytes ≤ 140737488355328) :
    ∃ a' c' w' κ', Sem.run P (Builtin.append_ #[t, t] ty #[.slice (some ⟨b, 0, none⟩) 0 0, .slice a2 m c2]) w = .ok (.slice a' m c') w' ∧ Ty S O κ' w' ∧ Sl S κ' k (a', m, c') ∧ Ext w w' ∧ ∀ X, Pk X κ κ' w0 w' := by
  obtain ⟨i, z, hi, hz, hsz, hby, hzs⟩ := H.info
  have h := h0.ext hx0
  have h0' := h0
  have hn : κ b = none := h0.none_top hb0
  have nothing : ∀ x : Option Addr, Sem.run P (Builtin.append_ #[t, t] ty #[.slice (some ⟨b, 0, none⟩) 0 0, .slice x 0 c2]) w = .ok (.slice (some ⟨b, 0, none⟩) 0 0) w →
      ∃ a' c' w' κ', Sem.run P (Builtin.append_ #[t, t] ty #[.slice (some ⟨b, 0, none⟩) 0 0, .slice x 0 c2]) w = .ok (.slice a' 0 c') w' ∧ Ty S O κ' w' ∧ Sl S κ' k (a', 0, c') ∧ Ext w w' ∧ ∀ X, Pk X κ κ' w0 w' := by
    intro x hr
    exact ⟨_, _, w, κ.put b k 0 0, hr, h.put hM hb hn (Nat.le_refl _) (fun i v hi => by omega), .inr ⟨b, 0, 0, 0, by simp, Ka.put_same _ _ _ _ _, Nat.le_refl _, by simp, by simp⟩, Ext.refl _, fun X => (Pk.ofExt X h0 hx0).put hb0 hn⟩
  rcases Sl.news h hs2 with ⟨rfl, rfl⟩ | ⟨p, news, rfl, hl, hc, hO⟩
  · refine nothing none ?_
    simp [Builtin.append_, run_underlying H.under, sizeOf, typeInfo, hi, Builtin.lenOf, Builtin.firstCells, storeCells]
  · rcases Nat.eq_zero_or_pos m with h0 | h0
    · subst h0
      refine nothing _ ?_
      exact run_append_room_cells (P := P) w t ty (S.ty k) i H.under hi b 0 0 0 p 0 c2 [] (by simp) (fun j u hj => by simp at hj) (fun u hu => by cases hu) (Nat.le_refl _) (fun j hj => by simp at hj) (fun j hj => by simp at hj)
    · have h63 : 0 + m ≤ maxLen := by
        have := Nat.le_mul_of_pos_right m H.posB
        simp only [maxLen]; omega
      obtain ⟨v', w', q1, q2, q3⟩ := run_append_arg_grows (P := P) w t ty (S.ty k) i z (S.sz k) bytes H.under hi hz hsz hby hzs H.pos ⟨b, 0, none⟩ 0 0 [] (by simp) (fun j u hj => by simp at hj) p m c2 news hl hc (by omega) h63 (by simpa using hlen)
      obtain ⟨⟨a', l', c'⟩, κ', rfl, e2, e3, e4, e5⟩ := Sl.ofOwn hM h q2 q3 (by simpa using hO)
      rw [Nat.zero_add] at e4; dsimp only at e4; subst e4
      have hx : Ext w w' := Ext.grown q3 rfl
      exact ⟨a', c', w', κ', q1, e2, e3, hx, fun X => (Pk.ofExt X h0' hx0).trans (e5.exts h hx)⟩
def subK (κ : Ka ι) (P : ι → Bool) (w : World) : World := { w with heap := w.heap.mapIdx fun i o => match κ i with | some (k, _, _) => if P k then o else .cells #[] 0 (0, 0) | none => .cells #[] 0 (0, 0) }
theorem subK_cell {P : ι → Bool} {b n u : Nat} (e : κ b = some (k, n, u)) (hP : P k = true) (i : Nat) : (subK κ P w).cell? ⟨b, i, none⟩ = w.cell? ⟨b, i, none⟩ := by
  have : (subK κ P w).heap[b]? = w.heap[b]? := by
    simp only [subK, Array.getElem?_mapIdx]
    cases w.heap[b]? with
    | none => rfl
    | some o => simp [e, hP]
  exact World.cell?_of_block this
theorem subK_cel {P : ι → Bool} (h : ∀ b k n u, κ b = some (k, n, u) → P k = true → b < w.heap.size → w'.heap[b]? = w.heap[b]?) : Cel (subK κ P w) w' := fun p v hp => by
  have hlt : p.block < w.heap.size := by have := block_lt_of_cell hp; simpa [subK] using this
  have hget : (subK κ P w).heap[p.block]? = some (match κ p.block with | some (k, _, _) => if P k then w.heap[p.block] else .cells #[] 0 (0, 0) | none => .cells #[] 0 (0, 0)) := by
    simp only [subK, Array.getElem?_mapIdx, Array.getElem?_eq_getElem hlt]; rfl
  cases e : κ p.block with
  | none => rw [e] at hget; unfold World.cell? at hp; rw [hget] at hp; simp at hp
  | some x =>
    obtain ⟨k, n, u⟩ := x
    rw [e] at hget
    cases hP : P k with
    | false => simp only [hP] at hget; unfold World.cell? at hp; rw [hget] at hp; simp at hp
    | true =>
      simp only [hP, if_true] at hget
      have e2 : w'.heap[p.block]? = (subK κ P w).heap[p.block]? := by rw [h _ _ _ _ e hP hlt, hget, Array.getElem?_eq_getElem hlt]
      rw [World.cell?_of_block e2]; exact hp
theorem Pk.celK {X : ι → Prop} {P : ι → Bool} (p : Pk X κ κ' w w') (hX : ∀ k, P k = true → ¬ X k) : Cel (subK κ P w) w' := subK_cel fun b k n u e hP _ => p.keep b k n u e (hX k hP)
theorem Sl.pushB {P : Program} {t ty bytes : Nat} (hM : OkM O) (H : SlT P t (S.ty k) (S.sz k) bytes) (h : Ty S O κ w) {a : Option Addr} {l c : Nat} (hs : Sl S κ k (a, l, c)) {b tb : Nat} {cs : Array Value} (hB : Blk w b cs tb) (hcs : cs.size = S.sz k)
    (hO : ∀ j v, cs[j]? = some v → O κ k j v) (hlen : (l + 1) * bytes ≤ 140737488355328) :
    ∃ a' c' w' κ', Sem.run P (Builtin.append_ #[t, t] ty #[.slice a l c, .slice (some ⟨b, 0, none⟩) 1 1]) w = .ok (.slice a' (l + 1) c') w' ∧ Ty S O κ' w' ∧ Sl S κ' k (a', l + 1, c') ∧ Pk (· = k) κ κ' w w' :=
  Sl.appendC (ty := ty) hM H h hs ⟨b, 0, none⟩ 1 1 cs.toList (by simp [hcs]) (fun j u hj => by rw [add_mk, Nat.zero_add, hB.cell, ← Array.getElem?_toList]; exact hj)
    (fun j u hj => by
      have hj2 : j < S.sz k := by rw [← hcs, ← Array.length_toList]; exact (List.getElem?_eq_some_iff.1 hj).1
      rw [Nat.mod_eq_of_lt hj2]; exact hO j u (by rw [← Array.getElem?_toList]; exact hj)) hlen
end
end Go.V

namespace Go.V
open Go.RowKit (Below)
section
variable {ρ ρ' : Rn} {m m' m0 : AMem} {w w' w0 w1 : World} {L : List Nat}
def AMem.cut (m : AMem) (L : List Nat) : AMem := { m with objs := m.objs.filter fun x => !memB x.1 L }
theorem look_cut {l : List (Nat × AObj)} {t : Nat} {o : AObj} (h : look (l.filter fun x => !memB x.1 L) t = some o) : look l t = some o ∧ t ∉ L := by
  induction l with
  | nil => cases h
  | cons x r ih =>
    obtain ⟨k, v⟩ := x
    rw [List.filter_cons] at h
    cases hb : Nat.beq k t with
    | true =>
      have := Nat.eq_of_beq_eq_true hb
      subst this
      split at h
      · rename_i hc
        simp only [look, hb, cond_true] at h ⊢
        refine ⟨h, fun hm => ?_⟩
        have : memB k L = true := by
          clear ih h hb
          induction L with
          | nil => cases hm
          | cons a L ih2 =>
            unfold memB
            rcases List.mem_cons.1 hm with e | e
            · subst e; rw [Nat.beq_refl]; rfl
            · rw [ih2 (by simp only [memB, Bool.not_eq_true', Bool.or_eq_false_iff] at hc; simp [hc.2]) e, Bool.or_true]
        simp only [Bool.not_eq_true'] at hc
        rw [hc] at this; cases this
      · obtain ⟨h1, h2⟩ := ih h
        rename_i hc
        simp only [Bool.not_eq_true', Bool.not_eq_false] at hc
        exact absurd (memB_mem hc) h2
    | false =>
      simp only [look, hb, cond_false]
      split at h
      · simp only [look, hb, cond_false] at h; exact ih h
      · exact ih h
noncomputable def stayK (ρ : Rn) (m0 : AMem) (L : List Nat) : Ka Unit := fun b => open Classical in if ∃ t, t < m0.next ∧ t ∉ L ∧ (∃ o, m0.get t = some o ∧ o.live = true) ∧ ρ.blk t = b then some ((), 0, 0) else none
noncomputable def stayW (ρ : Rn) (m0 : AMem) (L : List Nat) (w : World) : World := subK (stayK ρ m0 L) (fun _ => true) w
theorem stay_mem {ρ0 : Rn} (hm : Mem w0 ρ0 m0 w1) (l : Rn.Le ρ0 ρ) : MemC ρ (m0.cut L) (stayW ρ0 m0 L w1) := fun t cs ty g hg i u hu => by
  obtain ⟨hg, hL⟩ := look_cut hg
  have hg : m0.get t = some (.cells cs ty g) := hg
  obtain ⟨v, hv, r⟩ := hm.c t cs ty g hg i u hu
  obtain ⟨_, e1, e2⟩ := l.tok t (hm.got t _ hg)
  refine ⟨v, ?_, r.mono l⟩
  rw [e1, e2, ← hv]
  have hk : stayK ρ0 m0 L (ρ0.blk t) = some ((), 0, 0) := by
    unfold stayK; rw [if_pos ⟨t, hm.dom t (hm.got t _ hg), hL, ⟨_, hg, rfl⟩, rfl⟩]
  exact subK_cell hk rfl _
theorem stay_cel {ρ0 : Rn} (h : Ev w0 ρ0 m0 w1 ρ m w) (hL : ∀ l, m.log = l ++ m0.log → ∀ t ∈ l, t ∈ L ∨ m0.next ≤ t) : Cel (stayW ρ0 m0 L w1) w := by
  obtain ⟨l, e, k⟩ := h.keep
  refine subK_cel fun b kk n u hk _ _ => ?_
  unfold stayK at hk
  split at hk
  · rename_i hc
    obtain ⟨t, h1, h2, ⟨o, h3, h4⟩, rfl⟩ := hc
    exact (k t h1 fun hl => by rcases hL l e t hl with h5 | h5; exact h2 h5; omega).2 o h3 h4
  · cases hk
def logIn (m0 m : AMem) (L : List Nat) : Bool := (m.log.take (m.log.length - m0.log.length)).all fun t => memB t L || Nat.ble m0.next t
theorem logIn_ok (h : logIn m0 m L = true) : ∀ l, m.log = l ++ m0.log → ∀ t ∈ l, t ∈ L ∨ m0.next ≤ t := fun l e t ht => by
  unfold logIn at h
  rw [e, List.length_append, Nat.add_sub_cancel, List.take_left] at h
  have := List.all_eq_true.1 h t ht
  rw [Bool.or_eq_true] at this
  exact this.imp memB_mem Nat.le_of_ble_eq_true
def anyE (P : Program) (T : Tab) (callE : FuncId → List Value → AMem → Option (Value × AMem)) (ops : Array Oper) (m0 : AMem) (L : List Nat) (cl : Nat → Bool) : Plan → Env → AMem → Option (Env × AMem)
  | .done, e, m => some (e, m)
  | .take i p, e, m => match ops[i]? with
    | some o => (match guardB ops o.guard e with
      | some (true, e1) => (match pureE T o.op e1 (m0.cut L) with | some u => anyE P T callE ops m0 L cl p (setD e1 o.dst u) m | none => none)
      | some (false, e1) => anyE P T callE ops m0 L cl p (setD e1 o.dst undef) m
      | none => none)
    | none => none
  | .one i p, e, m => match ops[i]? with
    | some o => (match guardB ops o.guard e with
      | some (true, e1) => (match opE P T callE o e1 m with
        | some (u, m1) => (match cl i || logIn m0 m1 L with | true => anyE P T callE ops m0 L cl p (setD e1 o.dst u) m1 | false => none)
        | none => none)
      | some (false, e1) => anyE P T callE ops m0 L cl p (setD e1 o.dst undef) m
      | none => none)
    | none => none
  | .both .., _, _ => none
theorem anyE_ok {P : Program} {T : Tab} {callE : FuncId → List Value → AMem → Option (Value × AMem)} (hc : CallOk P w0 callE) {ops : Array Oper} {cl : Nat → Bool} {ρ0 : Rn} (hm0 : Mem w0 ρ0 m0 w1) : ∀ (p : Plan) {ρ : Rn} {m : AMem} {w : World} {e e' e2 : Env}, Ev w0 ρ0 m0 w1 ρ m w → ER ρ e e' →
    anyE P T callE ops m0 L cl p e m = some (e2, m') → ∀ {K : Env → World → Prop}, (∀ ρ' e2' w', Ev w0 ρ0 m0 w1 ρ' m' w' → ER ρ' e2 e2' → K e2' w') → anyV P T ops (stayW ρ0 m0 L w1) cl (fun w' => Cel (stayW ρ0 m0 L w1) w') p e' K w := by
  intro p
  induction p with
  | done => intro ρ m w e e' e2 hv he h K k; cases h; exact k ρ e' w hv he
  | take i p ih =>
    intro ρ m w e e' e2 hv he h K k
    unfold anyE at h
    unfold anyV
    split at h
    · rename_i o ho
      rw [ho]; simp only
      split at h
      · rename_i e1 hg
        split at h
        · rename_i u hu
          refine guardB_ok hg he fun e1' he1 => ⟨fun _ => ?_, fun hx => by cases hx⟩
          exact pureE_ok hu he1 (stay_mem hm0 hv.le) fun v r => ih hv (ER.set he1 o.dst r) h k
        · cases h
      · rename_i e1 hg
        exact guardB_ok hg he fun e1' he1 => ⟨fun hx => (by cases hx), fun _ => ih hv (ER.set he1 o.dst undefR) h k⟩
      · cases h
    · cases h
  | one i p ih =>
    intro ρ m w e e' e2 hv he h K k
    unfold anyE at h
    unfold anyV
    split at h
    · rename_i o ho
      rw [ho]; simp only
      split at h
      · rename_i e1 hg
        split at h
        · rename_i u m1 hu
          split at h
          · rename_i hcl
            refine guardB_ok hg he fun e1' he1 => ⟨fun _ => ?_, fun hx => by cases hx⟩
            refine opE_ok hc hu he1 hv.mem fun ρ1 v w2 v1 r1 => ?_
            have hv2 := Ev.trans hm0 hv v1
            have rest := ih hv2 (ER.set (he1.mono v1.le) o.dst r1) h k
            unfold cndK
            cases hci : cl i with
            | true => exact rest
            | false =>
              rw [hci, Bool.false_or] at hcl
              exact ⟨stay_cel hv2 (logIn_ok hcl), rest⟩
          · cases h
        · cases h
      · rename_i e1 hg
        exact guardB_ok hg he fun e1' he1 => ⟨fun hx => (by cases hx), fun _ => ih hv (ER.set he1 o.dst undefR) h k⟩
      · cases h
    · cases h
  | both i p q _ _ => intro ρ m w e e' e2 hv he h K k; cases h
end
end Go.V

namespace Go.V
open Go.RowKit (Below)
def anyL (P : Program) (T : Tab) (callE : FuncId → List Value → AMem → Option (Value × AMem)) (ops : Array Oper) (cl : Nat → Bool) (p : Plan) (e : Env) (m : AMem) : Option (Env × AMem) :=
  match anyE P T callE ops m [] cl p e m with
  | some r => some r
  | none => match anyE P T callE ops m [] (fun _ => true) p e m with
    | some (_, m1) => anyE P T callE ops m ((m1.log.take (m1.log.length - m.log.length)).filter fun t => Nat.blt t m.next) cl p e m
    | none => none
theorem anyL_some {P : Program} {T : Tab} {callE : FuncId → List Value → AMem → Option (Value × AMem)} {ops : Array Oper} {cl : Nat → Bool} {p : Plan} {e : Env} {m : AMem} {r : Env × AMem} (h : anyL P T callE ops cl p e m = some r) : ∃ L, anyE P T callE ops m L cl p e m = some r := by
  unfold anyL at h
  split at h
  · rename_i r' h1; cases h; exact ⟨_, h1⟩
  · split at h
    · exact ⟨_, h⟩
    · cases h
def regE (P : Program) (T : Tab) (callE : FuncId → List Value → AMem → Option (Value × AMem)) (ops : Array Oper) (n : Nat) (p : Plan) (e : Env) (m : AMem) : Option (Env × AMem) :=
  match regOkM T ops n p with
  | false => none
  | true => match anyL P T callE ops (clB T ops n) p e m with
    | some (e1, m1) => opsE P T callE ops (ops.toList.drop n) e1 m1
    | none => none
abbrev DfL := List (Nat × List Value)
def lastDefer : List Oper → Option (List Oper × Oper)
  | [] => none
  | [o] => match o.op with | .defer _ => some ([], o) | _ => none
  | o :: os => match lastDefer os with | some (l, d) => some (o :: l, d) | none => none
def deferV (T : Tab) (o : Oper) (e : Env) : Option (Nat × List Value) :=
  match o.op, o.guard, o.dst with
  | .defer { callee := .value (.func g), args := xs, .. }, none, none => match evsE e xs.toList, look T.fn g with | some us, some _ => some (g, us) | _, _ => none
  | _, _, _ => none
def codeE (P : Program) (T : Tab) (callE : FuncId → List Value → AMem → Option (Value × AMem)) : Nat → Code → Ann → Env → AMem → DfL → Option (Exit × Env × AMem × DfL)
  | 0, _, _, _, _, _ => none
  | f + 1, c, ann, e, m, ds => match c with
    | .skip => some (.normal, e, m, ds)
    | .ret => some (.ret, e, m, ds)
    | .exit i => some (.exit i, e, m, ds)
    | .region _ ops false => (match lastDefer ops.toList with
      | none => (match opsE P T callE ops ops.toList e m with | some (e1, m1) => some (.normal, e1, m1, ds) | none => none)
      | some (os, o) => (match opsE P T callE ops os e m with
        | some (e1, m1) => (match deferV T o e1 with | some d => some (.normal, e1, m1, d :: ds) | none => none)
        | none => none))
    | .region _ ops true => (match ann with
      | .anyD n p => (match regE P T callE ops n p e m with | some (e1, m1) => some (.normal, e1, m1, ds) | none => none)
      | _ => none)
    | .seq a b => (match ann with
      | .two x y => (match codeE P T callE f a x e m ds with
        | some (.normal, e1, m1, ds1) => codeE P T callE f b y e1 m1 ds1
        | r => r)
      | _ => none)
    | .cond c a b => (match ann with
      | .two x y => (match evE e c with
        | some (.bool true) => codeE P T callE f a x e m ds
        | some (.bool false) => codeE P T callE f b y e m ds
        | _ => none)
      | _ => none)
    | .block id c => (match ann with
      | .one x => (match codeE P T callE f c x e m ds with
        | some (.exit i, e1, m1, ds1) => (match Nat.beq i id with | true => some (.normal, e1, m1, ds1) | false => some (.exit i, e1, m1, ds1))
        | r => r)
      | _ => none)
    | .loop c => (match ann with
      | .one x => (match codeE P T callE f c x e m ds with
        | some (.normal, e1, m1, ds1) => codeE P T callE f (.loop c) (.one x) e1 m1 ds1
        | r => r)
      | _ => none)
    | _ => none
section
variable {ρ ρ' : Rn} {m m' : AMem} {w w' w0 : World}
inductive DR (ρ : Rn) : DfL → List Deferred → Prop
  | nil : DR ρ [] []
  | cons {g : Nat} {us vs : List Value} {l : DfL} {r : List Deferred} : LR ρ us vs → DR ρ l r → DR ρ ((g, us) :: l) ({ target := .fn (.func g) #[], args := vs.toArray } :: r)
theorem DR.mono {l : DfL} {r : List Deferred} (h : DR ρ l r) (k : Rn.Le ρ ρ') : DR ρ' l r := by
  induction h with
  | nil => exact .nil
  | cons a _ ih => exact .cons (a.mono k) ih
def After (N : Nat) (w0 : World) (ρ : Rn) (m : AMem) (w : World) (x : Exit) (e2 : Env) (m' : AMem) (ds : DfL) : Exit → Act → World → Prop := fun x' a' w' => x' = x ∧ ∃ ρ' e2', Ag N a' e2' ∧ Ev w0 ρ m w ρ' m' w' ∧ ER ρ' e2 e2' ∧ DR ρ' ds a'.defers
theorem After.from {N : Nat} {ρ1 : Rn} {m1 : AMem} {w1 : World} {x : Exit} {e2 : Env} {ds : DfL} (hm : Mem w0 ρ m w) (v : Ev w0 ρ m w ρ1 m1 w1) {x' : Exit} {a' : Act} (h : After N w0 ρ1 m1 w1 x e2 m' ds x' a' w') : After N w0 ρ m w x e2 m' ds x' a' w' := by
  obtain ⟨h1, ρ2, e2', h2, h3, h4⟩ := h
  exact ⟨h1, ρ2, e2', h2, Ev.trans hm v h3, h4⟩
theorem regE_ok {P : Program} {T : Tab} {callE : FuncId → List Value → AMem → Option (Value × AMem)} (hc : CallOk P w0 callE) {ops : Array Oper} {n : Nat} {p : Plan} {e e' e2 : Env} {id : Nat} (h : regE P T callE ops n p e m = some (e2, m')) (he : ER ρ e e') (hm : Mem w0 ρ m w) {Q : Post}
    (k : ∀ ρ' e2' w', Ev w0 ρ m w ρ' m' w' → ER ρ' e2 e2' → Q .normal e2' w') : WP P T (.region id ops true) (.anyD n p) Q e' w := by
  unfold regE at h
  split at h
  · cases h
  rename_i hr
  split at h
  · rename_i e1 m1 h1
    obtain ⟨L, h1⟩ := anyL_some h1
    simp only [WP]
    rw [hr]; simp only
    have hmd : Mem w0 ρ m w.drew := by
      have hx : Ext w w.drew := (Below.refl _ _).drew
      refine ⟨Below.trans hm.x (hx.mono hm.x.size), hm.dom, hm.cdom, hm.got, fun t o hg hl => ?_, hm.apart⟩
      obtain ⟨a, b, c⟩ := hm.obj t o hg hl
      exact ⟨a, Nat.lt_of_lt_of_le b hx.size, c.mono (Rn.Le.refl ρ) (hm.got t o hg) fun _ => hx.block _ b⟩
    have hev : Ev w0 ρ m w ρ m w.drew := ⟨Rn.Le.refl ρ, hmd, Nat.le_refl _, [], rfl, fun _ _ _ => ⟨rfl, fun _ _ _ => rfl⟩⟩
    show ∃ v0, Cel v0 w.drew ∧ _
    refine ⟨stayW ρ m L w.drew, stay_cel (Ev.refl hmd) (fun l e t ht => by
      have : l = [] := by
        have := congrArg List.length e
        rw [List.length_append] at this
        exact List.eq_nil_of_length_eq_zero (by omega)
      rw [this] at ht; exact absurd ht (by simp)), ?_⟩
    exact anyE_ok hc hmd p (Ev.refl hmd) he h1 fun ρ1 e1' w1 v1 he1 => opsE_ok hc _ h he1 v1.mem fun ρ2 e2' w2 v2 he2 => k ρ2 e2' w2 (Ev.trans hm hev (Ev.trans hmd v1 v2)) he2
  · cases h
end
end Go.V

namespace Go.V
open Go.RowKit (Below)
section
variable {w0 : World}
theorem lift_after {N : Nat} {D : Nat → Bool} {a : Act} {ρ : Rn} {m m' : AMem} {w : World} {e2 : Env} {z : Exit} {a' : Act} {w' : World} {ds : DfL} (hd : DR ρ ds a.defers)
    (h : lift N D a (fun x e2' w' => x = .normal ∧ ∃ ρ', Ev w0 ρ m w ρ' m' w' ∧ ER ρ' e2 e2') z a' w') : After N w0 ρ m w .normal e2 m' ds z a' w' := by
  cases z with
  | normal => obtain ⟨e', hA, hS, _, ρ', hv, he⟩ := h; exact ⟨rfl, ρ', e', hA, hv, he, by rw [hS.defers]; exact hd.mono hv.le⟩
  | panic ch => exact h.elim
  | _ => obtain ⟨_, _, _, hq, _⟩ := h; cases hq
theorem opsV_pre {P : Program} {T : Tab} (hT : T.Ok P) {N : Nat} {D : Nat → Bool} {ops : Array Oper} {K : Env → World → Prop} {Q : Exit → Act → World → Prop} {a0 : Act} {rest : List Oper} :
    ∀ (os : List Oper) (a : Act) (e : Env) (w : World), Within N D os → Ag N a e → Same D a0 a → opsV P T ops os e K w →
      (∀ a e w, Ag N a e → Same D a0 a → K e w → wpList P ops Q rest a w) → wpList P ops Q (os ++ rest) a w
  | [], a, e, w, _, hA, hS, h, hQ => hQ a e w hA hS h
  | o :: os, a, e, w, hW, hA, hS, h, hQ => by
    have hWo := hW o List.mem_cons_self
    have hWs : Within N D os := fun o' ho' => hW o' (List.mem_cons_of_mem _ ho')
    obtain ⟨e', hA', h⟩ := guardV_sound hA h
    rw [List.cons_append]
    unfold wpList
    rcases h with ⟨hw, h⟩ | ⟨hw, h⟩
    · rw [if_pos hw]
      refine .inl ((opV_sound hT hA' h).wp fun v w' hK => ?_)
      exact opsV_pre hT os _ _ _ hWs (hA'.put _ _ fun t ht => (hWo t ht).1) (hS.put _ _ fun t ht => (hWo t ht).2) hK hQ
    · rw [if_neg (by simp [hw])]
      exact opsV_pre hT os _ _ _ hWs (hA'.put _ _ fun t ht => (hWo t ht).1) (hS.put _ _ fun t ht => (hWo t ht).2) h hQ
theorem lastDefer_eq : ∀ {l os : List Oper} {o : Oper}, lastDefer l = some (os, o) → l = os ++ [o]
  | [], os, o, h => by cases h
  | [x], os, o, h => by
    unfold lastDefer at h
    split at h
    · cases h; rfl
    · cases h
  | x :: y :: l, os, o, h => by
    unfold lastDefer at h
    split at h
    · rename_i l' d h1
      cases h
      rw [lastDefer_eq h1]; rfl
    · cases h
theorem deferV_ok {P : Program} {T : Tab} {ρ : Rn} {o : Oper} {e e' : Env} {d : Nat × List Value} {N : Nat} {a : Act} {ops : Array Oper} {Q : Exit → Act → World → Prop} {w : World} (h : deferV T o e = some d) (he : ER ρ e e') (hA : Ag N a e')
    (k : ∀ vs, LR ρ d.2 vs → Q .normal { a with defers := { target := .fn (.func d.1) #[], args := vs.toArray } :: a.defers } w) : wpList P ops Q [o] a w := by
  unfold deferV at h
  split at h
  · rename_i g xs ts hop hgd hdst
    split at h
    · rename_i us rs h1 h2
      cases h
      have hev : evs e' xs.toList fun vs => LR ρ us vs := evsE_ok he h1 fun vs r => r
      have hr := evs_eval hA hev
      have hx : (execOp a.eval o).run P w = .ok (.defer { target := .fn (.func g) #[], args := xs.map a.eval }) w := by
        simp [execOp, hop, resolve, Deferred.ofValue, Act.eval]
      unfold wpList
      have hw : Region.wanted o (yielded ops a.tmps) = true := by unfold Region.wanted; rw [hgd]
      rw [if_pos hw]
      refine .inl ?_
      unfold Oper.wp
      rw [hx]
      show wpList P ops Q [] _ w
      have := k _ hr
      rw [hdst]
      have e2 : (xs.toList.map a.eval).toArray = xs.map a.eval := by apply Array.ext'; simp
      rw [e2] at this
      exact this
    · cases h
  · cases h
theorem codeE_ok {P : Program} {T : Tab} (hT : T.Ok P) (hmx : P.follows .mixedOrders = true) {callE : FuncId → List Value → AMem → Option (Value × AMem)} (hc : CallOk P w0 callE) {N : Nat} : ∀ (f : Nat) (c : Code) (ann : Ann) {ρ : Rn} {m m' : AMem} {w : World} {e e' e2 : Env} {x : Exit} {a : Act} {ds ds' : DfL},
    codeE P T callE f c ann e m ds = some (x, e2, m', ds') → codeIn N c = true → Ag N a e' → ER ρ e e' → Mem w0 ρ m w → DR ρ ds a.defers → c.wp P (After N w0 ρ m w x e2 m' ds') a w := by
  intro f
  induction f using Nat.strongRecOn with
  | _ f ihs =>
  cases f with
  | zero => intro c ann ρ m m' w e e' e2 x a ds ds' h; cases h
  | succ f =>
    have ih := ihs f (Nat.lt_succ_self f)
    intro c ann ρ m m' w e e' e2 x a ds ds' h hN hA he hm hd
    cases c with
    | skip => cases h; exact wp_skip ⟨rfl, ρ, e', hA, Ev.refl hm, he, hd⟩
    | ret => cases h; exact wp_ret ⟨rfl, ρ, e', hA, Ev.refl hm, he, hd⟩
    | exit i => cases h; exact wp_exit ⟨rfl, ρ, e', hA, Ev.refl hm, he, hd⟩
    | region id ops d =>
      cases d with
      | false =>
        simp only [codeE] at h
        split at h
        case h_2 =>
          rename_i os o hl
          split at h
          · rename_i e1 m1 h1
            split at h
            · rename_i d h2
              cases h
              refine wp_region_list ?_
              rw [lastDefer_eq hl]
              have hW := within_region (N := N) (id := id) (d := false) hN
              rw [lastDefer_eq hl] at hW
              refine opsV_pre hT (D := fun t => writes t (.region id ops false)) (a0 := a) (K := fun e2' w' => ∃ ρ', Ev w0 ρ m w ρ' m' w' ∧ ER ρ' e2 e2') os a e' w (fun o' ho' => hW o' (List.mem_append_left _ ho')) hA (Same.refl _ _) (opsE_ok hc _ h1 he hm fun ρ' e2' w' v r => ⟨ρ', v, r⟩) ?_
              rintro a' e1' w' hA' hS' ⟨ρ', hv, r⟩
              exact deferV_ok h2 r hA' fun vs rv => ⟨rfl, ρ', e1', ⟨hA'.size, hA'.at_⟩, hv, r, .cons rv (by rw [hS'.defers]; exact hd.mono hv.le)⟩
            · cases h
          · cases h
        split at h
        · rename_i e1 m1 h1
          cases h
          refine wp_mono (WP_sound hT hmx (.region id ops false) ann (fun x e2' w' => x = .normal ∧ ∃ ρ', Ev w0 ρ m w ρ' m' w' ∧ ER ρ' e2 e2') e' w a hN hA ?_) fun z a' w' hz => lift_after hd hz
          exact opsE_ok hc _ h1 he hm fun ρ' e2' w' v r => ⟨rfl, ρ', v, r⟩
        · cases h
      | true =>
        simp only [codeE] at h
        split at h
        · rename_i n p
          split at h
          · rename_i e1 m1 h1
            cases h
            refine wp_mono (WP_sound hT hmx (.region id ops true) (.anyD n p) (fun x e2' w' => x = .normal ∧ ∃ ρ', Ev w0 ρ m w ρ' m' w' ∧ ER ρ' e2 e2') e' w a hN hA ?_) fun z a' w' hz => lift_after hd hz
            exact regE_ok hc h1 he hm fun ρ' e2' w' v r => ⟨rfl, ρ', v, r⟩
          · cases h
        · cases h
    | seq c d =>
      simp only [codeIn, Bool.and_eq_true] at hN
      simp only [codeE] at h
      split at h
      · rename_i y z
        refine wp_seq ?_
        split at h
        · rename_i e1 m1 ds1 h1
          refine wp_mono (ih c y h1 hN.1 hA he hm hd) fun x' a' w' hz => ?_
          obtain ⟨rfl, ρ1, e1', hA1, v1, he1, hd1⟩ := hz
          exact wp_mono (ih d z h hN.2 hA1 he1 v1.mem hd1) fun x2 a2 w2 h2 => After.from hm v1 h2
        · rename_i hne
          refine wp_mono (ih c y h hN.1 hA he hm hd) fun x' a' w' hz => ?_
          obtain ⟨rfl, rest⟩ := hz
          cases x' with
          | normal => exact absurd h (hne _ _ _)
          | _ => exact ⟨rfl, rest⟩
      · cases h
    | cond cc c d =>
      simp only [codeIn, Bool.and_eq_true] at hN
      simp only [codeE] at h
      split at h
      · rename_i y z
        split at h
        · rename_i h1
          obtain ⟨v, hv, r⟩ := evE_ok he h1
          cases r
          exact wp_cond_true (ev_eval hA hv) (ih c y h hN.1 hA he hm hd)
        · rename_i h1
          obtain ⟨v, hv, r⟩ := evE_ok he h1
          cases r
          exact wp_cond_false (ev_eval hA hv) (ih d z h hN.2 hA he hm hd)
        · cases h
      · cases h
    | block id c =>
      simp only [codeE] at h
      split at h
      · rename_i y
        refine wp_block ?_
        split at h
        · rename_i i e1 m1 ds1 h1
          split at h
          · rename_i hb
            cases h
            have hb := Nat.eq_of_beq_eq_true hb
            refine wp_mono (ih c y h1 hN hA he hm hd) fun x' a' w' hz => ?_
            obtain ⟨rfl, rest⟩ := hz
            simp only [Exit.inBlock]
            rw [if_pos hb]
            exact ⟨rfl, rest⟩
          · rename_i hb
            cases h
            refine wp_mono (ih c y h1 hN hA he hm hd) fun x' a' w' hz => ?_
            obtain ⟨rfl, rest⟩ := hz
            simp only [Exit.inBlock]
            rw [if_neg (fun hh => by subst hh; simp at hb)]
            exact ⟨rfl, rest⟩
        · rename_i hne
          refine wp_mono (ih c y h hN hA he hm hd) fun x' a' w' hz => ?_
          obtain ⟨rfl, rest⟩ := hz
          cases x' with
          | exit i => exact absurd h (hne _ _ _ _)
          | _ => exact ⟨rfl, rest⟩
      · cases h
    | loop c =>
      cases ann with
      | one y =>
        let R : Nat → Act → World → Prop := fun n a' w' => n ≤ f + 1 ∧ ∃ ρ1 m1 e1 e1' ds1, codeE P T callE n (.loop c) (.one y) e1 m1 ds1 = some (x, e2, m', ds') ∧ Ag N a' e1' ∧ Ev w0 ρ m w ρ1 m1 w' ∧ ER ρ1 e1 e1' ∧ DR ρ1 ds1 a'.defers
        refine wp_loop_rel R ?_ (n := f + 1) ⟨Nat.le_refl _, ρ, m, e, e', ds, h, hA, Ev.refl hm, he, hd⟩
        rintro n a1 w1 ⟨hn, ρ1, m1, e1, e1', ds1, h1, hA1, v1, he1, hd1⟩
        cases n with
        | zero => cases h1
        | succ n =>
          simp only [codeE] at h1
          split at h1
          · rename_i e3 m3 ds3 h3
            refine wp_mono (ihs n (by omega) c y h3 hN hA1 he1 v1.mem hd1) fun x' a' w' hz => ?_
            obtain ⟨rfl, ρ2, e3', hA2, v2, he2, hd2⟩ := hz
            exact ⟨n, Nat.lt_succ_self n, by omega, ρ2, m3, e3, e3', ds3, h1, hA2, Ev.trans hm v1 v2, he2, hd2⟩
          · rename_i hne
            refine wp_mono (ihs n (by omega) c y h1 hN hA1 he1 v1.mem hd1) fun x' a' w' hz => ?_
            have hz2 := After.from hm v1 hz
            obtain ⟨rfl, rest⟩ := hz
            cases x' with
            | normal => exact absurd h1 (hne _ _ _)
            | _ => exact hz2
      | _ => cases h
    | _ => cases h
end
end Go.V

namespace Go.V
open Go.RowKit (Below)
structure FnE where
  code : Code
  ann : Ann
  n : Nat
  rv : List ResultVar
def resE (T : Tab) (e : Env) (m : AMem) : List ResultVar → Option (List Value)
  | [] => some []
  | .tmp t :: r => match get e t, resE T e m r with | some u, some us => some (u :: us) | _, _ => none
  | .cell a t :: r => match get e a, T.t t, resE T e m r with
    | some (.pointer (some p)), some i, some us => (match ldE i.sh m p with | some u => some (u :: us) | none => none)
    | _, _, _ => none
def runD (callE : FuncId → List Value → AMem → Option (Value × AMem)) : DfL → AMem → Option AMem
  | [], m => some m
  | (g, us) :: l, m => match callE g us m with | some (_, m1) => runD callE l m1 | none => none
def endE (T : Tab) (rv : List ResultVar) (nd : Bool) (callD : FuncId → List Value → AMem → Option (Value × AMem)) (e : Env) (m : AMem) (ds : DfL) : Option (Value × AMem) :=
  match nd && !ds.isEmpty with
  | true => none
  | false => match runD callD ds m with
    | some m1 => (match resE T e m1 rv with | some vs => some (tupled vs, m1) | none => none)
    | none => none
def callF (P : Program) (T : Tab) (fns : List (Nat × FnE)) (fuel : Nat) : Nat → Bool → FuncId → List Value → AMem → Option (Value × AMem)
  | 0, _, _, _, _ => none
  | f + 1, nd, g, us, m => match look fns g with
    | none => none
    | some F => match Nat.ble us.length F.n with
      | false => none
      | true => match codeE P T (callF P T fns fuel f false) fuel F.code F.ann (argE 0 us) m [] with
        | some (.normal, e, m', ds) => endE T F.rv nd (callF P T fns fuel f true) e m' ds
        | some (.ret, e, m', ds) => endE T F.rv nd (callF P T fns fuel f true) e m' ds
        | _ => none
def FnsOk (P : Program) (fns : List (Nat × FnE)) : Prop := ∀ g F, look fns g = some F → ∃ fn, P.funcs[g]? = some fn ∧ fn.body = some F.code ∧ fn.ntmps = F.n ∧ fn.results.toList = F.rv ∧ codeIn F.n F.code = true ∧ Enters P g
section
variable {ρ : Rn} {m m' : AMem} {w w' w0 : World}
theorem argE_ER {us : List Value} : ∀ {vs : List Value} {i : Nat}, LR ρ us vs → ER ρ (argE i us) (argE i vs) := by
  induction us with
  | nil => intro vs i h t u hu; cases hu
  | cons u us ih =>
    intro vs i h
    obtain ⟨v, vs', rfl, r1, r2⟩ := h.inv_cons
    exact ER.set (ih r2) (some i) r1
theorem resE_ok {T : Tab} {e e' : Env} (he : ER ρ e e') (hm : MemC ρ m w) : ∀ {rv : List ResultVar} {us : List Value}, resE T e m rv = some us → ∀ {F : List Value → Prop}, (∀ vs, LR ρ us vs → F vs) → resV T e' w rv F := by
  intro rv
  induction rv with
  | nil => intro us h F k; cases h; exact k _ .nil
  | cons x rv ih =>
    intro us h F k
    cases x with
    | tmp t =>
      unfold resE at h
      split at h
      · rename_i u us1 h1 h2
        cases h
        obtain ⟨v, hv, r⟩ := he t u h1
        show ofV (get e' t) _
        rw [hv]
        exact ih h2 fun vs rs => k _ (LR.cons r rs)
      · cases h
    | cell a t =>
      unfold resE at h
      split at h
      · rename_i p i us1 h1 h2 h3
        split at h
        · rename_i u h4
          cases h
          obtain ⟨v, hv, r⟩ := he a _ h1
          cases r
          show ofV (get e' a) _
          rw [hv]
          show (match T.t t with | some i => ldSh i.sh w (ρ.a p) _ | none => False)
          rw [h2]
          exact ldE_ok hm h4 fun v r => ih h3 fun vs rs => k _ (LR.cons r rs)
        · cases h
      · cases h
theorem tupledR {us vs : List Value} (h : LR ρ us vs) : VR ρ (tupled us) (tupled vs) := by
  have hl := h.len
  match us, vs, h with
  | [], [], h => exact VR.tupleL h
  | [u], [v], h => exact h.at_ 0 u v rfl rfl
  | u :: u2 :: us, v :: v2 :: vs, h => exact VR.tupleL h
theorem runD_ok {P : Program} {callD : FuncId → List Value → AMem → Option (Value × AMem)} (hc : CallOkD P w0 callD) {fn : Func} {tmps : Array Value} {R : Ending → World → Prop} : ∀ {ds : DfL} {dl : List Deferred} {ρ : Rn} {m : AMem} {w : World}, runD callD ds m = some m' → DR ρ ds dl → Mem w0 ρ m w →
    (∀ ρ' w', Ev w0 ρ m w ρ' m' w' → _root_.Go.Leaves P fn tmps R [] .returning w') → _root_.Go.Leaves P fn tmps R dl .returning w := by
  intro ds
  induction ds with
  | nil => intro dl ρ m w h hd hm k; cases h; cases hd; exact k ρ w (Ev.refl hm)
  | cons d ds ih =>
    intro dl ρ m w h hd hm k
    cases hd with
    | @cons g us vs _ r rl hr =>
    unfold runD at h
    split at h
    · rename_i u m1 h1
      obtain ⟨hen, hcd⟩ := hc g us m u m1 h1
      refine ⟨by simp, .func g, #[], g, vs.toArray, rfl, ?_, ?_⟩
      · have := hen vs.toArray w
        simpa [invoke] using this
      · refine CallsD.mono (hcd ρ vs w rl hm .returning) ?_
        rintro en um' w' ⟨rfl, ρ', v, ev, rv, rfl⟩
        show _root_.Go.Leaves P fn tmps R r (settle .returning) w'
        exact ih h (hr.mono ev.le) ev.mem fun ρ2 w2 e2 => k ρ2 w2 (Ev.trans hm ev e2)
    · cases h
theorem callF_ok {P : Program} {T : Tab} (hT : T.Ok P) (hmx : P.follows .mixedOrders = true) {fns : List (Nat × FnE)} (hF : FnsOk P fns) (fuel : Nat) : ∀ f nd, CallOk P w0 (callF P T fns fuel f nd) ∧ (nd = true → CallOkD P w0 (callF P T fns fuel f nd)) := by
  intro f
  induction f with
  | zero => exact fun nd => ⟨fun g us m u m' h => (by cases h), fun _ g us m u m' h => (by cases h)⟩
  | succ f ih =>
    intro nd
    have main : ∀ g us m u m', callF P T fns fuel (f + 1) nd g us m = some (u, m') → Enters P g ∧ ∀ ρ vs w, LR ρ us vs → Mem w0 ρ m w → ∃ fn c, P.funcs[g]? = some fn ∧ fn.body = some c ∧
        c.wp P (fun x a' w' => (x = .normal ∨ x = .ret) ∧ (nd = true → a'.defers = []) ∧ _root_.Go.Leaves P fn a'.tmps (fun en w' => ∃ ρ' v, Ev w0 ρ m w ρ' m' w' ∧ VR ρ' u v ∧ en = .returned v) a'.defers .returning w') { tmps := vs.toArray ++ Array.replicate (fn.ntmps - vs.toArray.size) undef, defers := [] } w := by
      intro g us m u m' h
      unfold callF at h
      split at h
      · cases h
      rename_i F hg
      split at h
      · cases h
      rename_i hle
      have hle := Nat.le_of_ble_eq_true hle
      obtain ⟨fn, hf, hb, hn, hrv, hin, hent⟩ := hF g F hg
      refine ⟨hent, fun ρ vs w r hm => ⟨fn, F.code, hf, hb, ?_⟩⟩
      have hlen : vs.length ≤ fn.ntmps := by rw [← r.len, hn]; exact hle
      have hA : Ag fn.ntmps { tmps := vs.toArray ++ Array.replicate (fn.ntmps - vs.toArray.size) undef, defers := [] } (argE 0 vs) := by
        refine ⟨by simp; omega, fun t v ht => ?_⟩
        obtain ⟨_, h2⟩ := argE_get vs 0 t v ht
        simp only [Nat.sub_zero] at h2
        have hlt : t < vs.length := (List.getElem?_eq_some_iff.1 h2).1
        rw [Array.getD_eq_getD_getElem?, Array.getElem?_append_left (by simpa using hlt)]
        simp [h2]
      have fin : ∀ {x : Exit} {e2 : Env} {m2 : AMem} {ds : DfL} {a' : Act} {w' : World} {z : Exit}, (x = .normal ∨ x = .ret) → endE T F.rv nd (callF P T fns fuel f true) e2 m2 ds = some (u, m') → After fn.ntmps w0 ρ m w x e2 m2 ds z a' w' →
          (z = .normal ∨ z = .ret) ∧ (nd = true → a'.defers = []) ∧ _root_.Go.Leaves P fn a'.tmps (fun en w' => ∃ ρ' v, Ev w0 ρ m w ρ' m' w' ∧ VR ρ' u v ∧ en = .returned v) a'.defers .returning w' := by
        intro x e2 m2 ds a' w' z hx hr hz
        obtain ⟨rfl, ρ', e2', hA', hv, he, hd⟩ := hz
        unfold endE at hr
        split at hr
        · cases hr
        rename_i hnd
        split at hr
        · rename_i m3 h3
          split at hr
          · rename_i us2 h2
            cases hr
            refine ⟨hx, fun hn2 => ?_, runD_ok ((ih true).2 rfl) h3 hd hv.mem fun ρ2 w2 ev2 => ?_⟩
            · rw [hn2] at hnd
              simp only [Bool.true_and, Bool.not_eq_false'] at hnd
              have : ds = [] := by simpa using hnd
              subst this
              cases hd' : a'.defers with
              | nil => rfl
              | cons a l => rw [hd'] at hd; cases hd
            · have hres : resV T e2' w2 fn.results.toList (fun vs => LR ρ2 us2 vs) := by
                rw [hrv]; exact resE_ok (he.mono ev2.le) ev2.mem.c h2 fun vs rs => rs
              obtain ⟨vs2, hK, hrun⟩ := resV_run hT hA' hres
              refine ⟨tupled vs2, ?_, ρ2, tupled vs2, Ev.trans hm hv ev2, tupledR hK, rfl⟩
              unfold results
              have hrun' : (fn.results.mapM (rvS a')).run P w2 = .ok vs2.toArray w2 := by
                rw [Array.mapM_eq_mapM_toList, Sem.run_map, hrun]; rfl
              show ((fn.results.mapM (rvS a') >>= fun vs => (pure (if h : vs.size = 1 then vs[0] else .tuple vs) : Sem Value))).run P w2 = _
              rw [Sem.run_bind, hrun']
              simp only [Result.andThen_ok, Sem.run_pure]
              congr 1
              match vs2 with
              | [] => rfl
              | [v] => rfl
              | _ :: _ :: _ => rfl
          · cases hr
        · cases hr
      split at h
      · rename_i e m2 ds hce
        exact wp_mono (codeE_ok hT hmx (ih false).1 (N := fn.ntmps) fuel F.code F.ann hce (by rw [hn]; exact hin) hA (argE_ER r) hm .nil) fun z a' w' hz => fin (.inl rfl) h hz
      · rename_i e m2 ds hce
        exact wp_mono (codeE_ok hT hmx (ih false).1 (N := fn.ntmps) fuel F.code F.ann hce (by rw [hn]; exact hin) hA (argE_ER r) hm .nil) fun z a' w' hz => fin (.inr rfl) h hz
      · cases h
    refine ⟨fun g us m u m' h => ?_, fun hnd g us m u m' h => ?_⟩
    · obtain ⟨hent, hw⟩ := main g us m u m' h
      refine ⟨hent, fun ρ vs w r hm => ?_⟩
      obtain ⟨fn, c, hf, hb, hwp⟩ := hw ρ vs w r hm
      refine calls_of_wp_defers hf hb (wp_mono hwp fun x a' w' hx => ?_)
      obtain ⟨hx, _, hl⟩ := hx
      rcases hx with rfl | rfl <;> exact hl
    · obtain ⟨hent, hw⟩ := main g us m u m' h
      refine ⟨hent, fun ρ vs w r hm um => ?_⟩
      obtain ⟨fn, c, hf, hb, hwp⟩ := hw ρ vs w r hm
      refine callsD_of_wp hf hb (wp_mono hwp fun x a' w' hx => ?_)
      obtain ⟨hx, hd, hl⟩ := hx
      have hd := hd hnd
      rw [hd] at hl
      rcases hx with rfl | rfl <;> exact ⟨hd, hl⟩
end
def FnAll (P : Program) : List (Nat × FnE) → Prop
  | [] => True
  | (g, F) :: r => (∃ fn, P.funcs[g]? = some fn ∧ fn.body = some F.code ∧ fn.ntmps = F.n ∧ fn.results.toList = F.rv ∧ codeIn F.n F.code = true ∧ Enters P g) ∧ FnAll P r
theorem FnAll.ok {P : Program} : ∀ {fns : List (Nat × FnE)}, FnAll P fns → FnsOk P fns
  | [], _, g, F, h => by cases h
  | (k, G) :: r, h, g, F, hg => by
    unfold look at hg
    cases hb : Nat.beq k g with
    | true =>
      rw [hb, cond_true] at hg
      cases hg
      have := Nat.eq_of_beq_eq_true hb
      subst this
      exact h.1
    | false => rw [hb, cond_false] at hg; exact FnAll.ok h.2 g F hg
end Go.V

namespace Go.Proofs.YtkneoodgoadpaaaGreatDoor
open Go Go.V Go.Proofs
def etabTy : List (Nat × TInfo) := [
  (1, { sh := (.one .clo), zero := some [.nilFunc], bytes := 8 }),
  (2, { sh := (.one (.int .i64)), zero := some [.int .i64 0], bytes := 8 }),
  (3, { sh := (.one (.int .i64)), zero := some [.int .i64 0], bytes := 8 }),
  (4, { sh := (.one .bool), zero := some [.bool false], bytes := 1 }),
  (5, { sh := (.one (.int .u8)), zero := some [.int .u8 0], bytes := 1 }),
  (6, { sh := (.one (.int .u8)), zero := some [.int .u8 0], bytes := 1 }),
  (9, { sh := (.one .str), zero := some [.string ⟨#[]⟩], bytes := 16 }),
  (14, { sh := (.agg [.str, (.int .u64)]), places := [(0, 1, false), (1, 1, false)], zero := some [.string ⟨#[]⟩, .int .u64 0], bytes := 24 }),
  (20, { sh := (.one .any), zero := some [.nilIface], bytes := 16 }),
  (21, { sh := (.one (.int .i32)), zero := some [.int .i32 0], bytes := 4 }),
  (22, { sh := (.one .ptr), zero := some [.pointer none], bytes := 8 }),
  (23, { sh := (.one (.int .i64)), zero := some [.int .i64 0], bytes := 8 }),
  (26, { sh := (.one .slice), idx := some (none, 5), elem := 104, zero := some [.slice none 0 0], bytes := 24 }),
  (28, { sh := (.agg [(.int .i64), .slice]), places := [(0, 1, false), (1, 1, false)], zero := some [.int .i64 0, .slice none 0 0], bytes := 32 }),
  (34, { sh := (.one .slice), idx := some (none, 2), elem := 28, zero := some [.slice none 0 0], bytes := 24 }),
  (42, { sh := (.one .slice), idx := some (none, 1), elem := 23, zero := some [.slice none 0 0], bytes := 24 }),
  (43, { sh := (.one .slice), idx := some (none, 8), elem := 78, zero := some [.slice none 0 0], bytes := 24 }),
  (51, { sh := (.one .slice), idx := some (none, 1), elem := 4, zero := some [.slice none 0 0], bytes := 24 }),
  (52, { sh := (.one .slice), idx := some (none, 1), elem := 89, zero := some [.slice none 0 0], bytes := 24 }),
  (53, { sh := (.one .slice), idx := some (none, 1), elem := 91, zero := some [.slice none 0 0], bytes := 24 }),
  (54, { sh := (.one .slice), idx := some (none, 5), elem := 59, zero := some [.slice none 0 0], bytes := 24 }),
  (55, { sh := (.one .slice), idx := some (none, 5), elem := 72, zero := some [.slice none 0 0], bytes := 24 }),
  (57, { sh := (.agg [.slice, .slice, .slice, .slice, .slice, .slice]), places := [(0, 1, false), (1, 1, false), (2, 1, false), (3, 1, false), (4, 1, false), (5, 1, false)], zero := some [.slice none 0 0, .slice none 0 0, .slice none 0 0, .slice none 0 0, .slice none 0 0, .slice none 0 0], bytes := 144 }),
  (59, { sh := (.agg [.str, (.int .i64), (.int .i64), (.int .i64), (.int .i64)]), places := [(0, 1, false), (1, 1, false), (2, 1, false), (3, 1, false), (4, 1, false)], zero := some [.string ⟨#[]⟩, .int .i64 0, .int .i64 0, .int .i64 0, .int .i64 0], bytes := 48 }),
  (60, { sh := (.one .ptr), zero := some [.pointer none], bytes := 8 }),
  (62, { sh := (.one .slice), idx := some (none, 1), elem := 3, zero := some [.slice none 0 0], bytes := 24 }),
  (63, { sh := (.one .map), elem := 3, zero := some [.map none], bytes := 8 }),
  (65, { sh := (.agg [.bool, (.int .i64), (.int .i64), (.int .i64), .slice]), places := [(0, 1, false), (1, 1, false), (2, 1, false), (3, 2, true)], zero := some [.bool false, .int .i64 0, .int .i64 0, .int .i64 0, .slice none 0 0], bytes := 56 }),
  (66, { sh := (.one .map), elem := 95, zero := some [.map none], bytes := 8 }),
  (68, { sh := (.agg [.bool, (.int .i64), .slice, .bool, (.int .i64), .slice, .bool, .slice, .bool, (.int .i64), (.int .i64), .slice, .map, .slice, .bool, .bool, (.int .i64), .bool, (.int .i64), (.int .i64), (.int .i64), .slice, .slice, .map, .slice, (.int .i64), .bool, .slice, (.int .i64), .map, .map, .slice]), places := [(0, 1, false), (1, 2, true), (3, 1, false), (4, 2, true), (6, 1, false), (7, 1, false), (8, 1, false), (9, 1, false), (10, 2, true), (12, 1, false), (13, 1, false), (14, 1, false), (15, 1, false), (16, 1, false), (17, 5, true), (22, 1, false), (23, 1, false), (24, 1, false), (25, 1, false), (26, 1, false), (27, 1, false), (28, 1, false), (29, 1, false), (30, 1, false), (31, 1, false)], zero := some [.bool false, .int .i64 0, .slice none 0 0, .bool false, .int .i64 0, .slice none 0 0, .bool false, .slice none 0 0, .bool false, .int .i64 0, .int .i64 0, .slice none 0 0, .map none, .slice none 0 0, .bool false, .bool false, .int .i64 0, .bool false, .int .i64 0, .int .i64 0, .int .i64 0, .slice none 0 0, .slice none 0 0, .map none, .slice none 0 0, .int .i64 0, .bool false, .slice none 0 0, .int .i64 0, .map none, .map none, .slice none 0 0], bytes := 408 }),
  (72, { sh := (.agg [(.int .i64), .slice, (.int .i64), .slice, .bool]), places := [(0, 2, true), (2, 2, true), (4, 1, false)], zero := some [.int .i64 0, .slice none 0 0, .int .i64 0, .slice none 0 0, .bool false], bytes := 72 }),
  (75, { sh := (.one .clo), zero := some [.nilFunc], bytes := 8 }),
  (78, { sh := (.agg [(.int .i64), (.int .i64), .str, (.int .i64), (.int .i64), (.int .i64), (.int .i64), .slice]), places := [(0, 1, false), (1, 1, false), (2, 1, false), (3, 1, false), (4, 1, false), (5, 1, false), (6, 2, true)], zero := some [.int .i64 0, .int .i64 0, .string ⟨#[]⟩, .int .i64 0, .int .i64 0, .int .i64 0, .int .i64 0, .slice none 0 0], bytes := 88 }),
  (79, { sh := (.one .clo), zero := some [.nilFunc], bytes := 8 }),
  (89, { sh := (.one .map), elem := 4, zero := some [.map none], bytes := 8 }),
  (91, { sh := (.one .map), elem := 60, zero := some [.map none], bytes := 8 }),
  (95, { sh := (.one .map), elem := 28, zero := some [.map none], bytes := 8 }),
  (102, { sh := (.one .slice), idx := some (none, 2), elem := 109, zero := some [.slice none 0 0], bytes := 24 }),
  (104, { sh := (.agg [.str, (.int .i64), .str, .slice, .slice]), places := [(0, 1, false), (1, 1, false), (2, 1, false), (3, 1, false), (4, 1, false)], zero := some [.string ⟨#[]⟩, .int .i64 0, .string ⟨#[]⟩, .slice none 0 0, .slice none 0 0], bytes := 88 }),
  (105, { sh := (.one .slice), idx := some (none, 1), elem := 9, zero := some [.slice none 0 0], bytes := 24 }),
  (109, { sh := (.agg [(.int .i64), .str]), places := [(0, 1, false), (1, 1, false)], zero := some [.int .i64 0, .string ⟨#[]⟩], bytes := 24 }),
  (110, { sh := (.one .ptr), zero := some [.pointer none], bytes := 8 }),
  (127, { sh := (.one .map), elem := 3, zero := some [.map none], bytes := 8 }),
  (135, { sh := (.agg [.str, .str, (.int .i64)]), places := [(0, 1, false), (1, 1, false), (2, 1, false)], zero := some [.string ⟨#[]⟩, .string ⟨#[]⟩, .int .i64 0], bytes := 40 }),
  (141, { sh := (.one .clo), zero := some [.nilFunc], bytes := 8 }),
  (144, { sh := (.one .slice), idx := some (none, 1), elem := 5, zero := some [.slice none 0 0], bytes := 24 }),
  (149, { sh := (.one .slice), idx := some (none, 1), elem := 62, zero := some [.slice none 0 0], bytes := 24 }),
  (157, { sh := (.one (.int .u64)), zero := some [.int .u64 0], bytes := 8 }),
  (159, { sh := (.agg [(.int .u8), (.int .u8), (.int .u8), (.int .u8), (.int .u8), (.int .u8), (.int .u8), (.int .u8), (.int .u8), (.int .u8), (.int .u8), (.int .u8), (.int .u8), (.int .u8), (.int .u8), (.int .u8), (.int .u8), (.int .u8), (.int .u8), (.int .u8), (.int .u8), (.int .u8), (.int .u8), (.int .u8)]), idx := some (some 24, 1), zero := some [.int .u8 0, .int .u8 0, .int .u8 0, .int .u8 0, .int .u8 0, .int .u8 0, .int .u8 0, .int .u8 0, .int .u8 0, .int .u8 0, .int .u8 0, .int .u8 0, .int .u8 0, .int .u8 0, .int .u8 0, .int .u8 0, .int .u8 0, .int .u8 0, .int .u8 0, .int .u8 0, .int .u8 0, .int .u8 0, .int .u8 0, .int .u8 0], bytes := 24 }),
  (167, { sh := (.one (.int .u64)), zero := some [.int .u64 0], bytes := 8 }),
  (170, { sh := (.agg [(.int .u64), (.int .u64), (.int .u64), (.int .u64), (.int .u64), (.int .u64), (.int .u64), (.int .u64), (.int .u64), (.int .u64), (.int .u64), (.int .u64), (.int .u64), (.int .u64), (.int .u64), (.int .u64), (.int .u64), (.int .u64), (.int .u64), (.int .u64)]), idx := some (some 20, 1), zero := some [.int .u64 0, .int .u64 0, .int .u64 0, .int .u64 0, .int .u64 0, .int .u64 0, .int .u64 0, .int .u64 0, .int .u64 0, .int .u64 0, .int .u64 0, .int .u64 0, .int .u64 0, .int .u64 0, .int .u64 0, .int .u64 0, .int .u64 0, .int .u64 0, .int .u64 0, .int .u64 0], bytes := 160 }),
  (171, { sh := (.one (.int .u32)), zero := some [.int .u32 0], bytes := 4 }),
  (172, { sh := (.row 65), idx := some (some 65, 1), bytes := 65 }),
  (177, { sh := (.row 256), idx := some (some 256, 1), bytes := 256 }),
  (179, { sh := (.agg [(.int .u8), (.int .u8)]), places := [(0, 1, false), (1, 1, false)], zero := some [.int .u8 0, .int .u8 0], bytes := 2 }),
  (180, { sh := (.agg [(.int .u8), (.int .u8), (.int .u8), (.int .u8), (.int .u8), (.int .u8), (.int .u8), (.int .u8), (.int .u8), (.int .u8), (.int .u8), (.int .u8), (.int .u8), (.int .u8), (.int .u8), (.int .u8), (.int .u8), (.int .u8), (.int .u8), (.int .u8), (.int .u8), (.int .u8), (.int .u8), (.int .u8), (.int .u8), (.int .u8), (.int .u8), (.int .u8), (.int .u8), (.int .u8), (.int .u8), (.int .u8)]), idx := some (some 16, 2), zero := some [.int .u8 0, .int .u8 0, .int .u8 0, .int .u8 0, .int .u8 0, .int .u8 0, .int .u8 0, .int .u8 0, .int .u8 0, .int .u8 0, .int .u8 0, .int .u8 0, .int .u8 0, .int .u8 0, .int .u8 0, .int .u8 0, .int .u8 0, .int .u8 0, .int .u8 0, .int .u8 0, .int .u8 0, .int .u8 0, .int .u8 0, .int .u8 0, .int .u8 0, .int .u8 0, .int .u8 0, .int .u8 0, .int .u8 0, .int .u8 0, .int .u8 0, .int .u8 0], bytes := 32 }),
  (181, { sh := (.one (.int .u16)), zero := some [.int .u16 0], bytes := 2 }),
  (182, { sh := (.one .slice), idx := some (none, 1), elem := 181, zero := some [.slice none 0 0], bytes := 24 }),
  (184, { sh := (.one .slice), idx := some (none, 1), elem := 171, zero := some [.slice none 0 0], bytes := 24 }),
  (186, { sh := (.agg [(.int .u8), (.int .u8), (.int .u8), (.int .u8), (.int .u8), (.int .u8), (.int .u8), (.int .u8), (.int .u8), (.int .u8), (.int .u8), (.int .u8), (.int .u8), (.int .u8), (.int .u8), (.int .u8), (.int .u8), (.int .u8), (.int .u8), (.int .u8), (.int .u8), (.int .u8), (.int .u8), (.int .u8), (.int .u8), (.int .u8), (.int .u8), (.int .u8), (.int .u8), (.int .u8), (.int .u8), (.int .u8)]), idx := some (some 32, 1), zero := some [.int .u8 0, .int .u8 0, .int .u8 0, .int .u8 0, .int .u8 0, .int .u8 0, .int .u8 0, .int .u8 0, .int .u8 0, .int .u8 0, .int .u8 0, .int .u8 0, .int .u8 0, .int .u8 0, .int .u8 0, .int .u8 0, .int .u8 0, .int .u8 0, .int .u8 0, .int .u8 0, .int .u8 0, .int .u8 0, .int .u8 0, .int .u8 0, .int .u8 0, .int .u8 0, .int .u8 0, .int .u8 0, .int .u8 0, .int .u8 0, .int .u8 0, .int .u8 0], bytes := 32 }),
  (187, { sh := (.row 64), idx := some (some 64, 1), bytes := 64 })]
def etabFn : List (Nat × List Sh) := [(3, [(.one .bool)]), (4, [(.one (.int .i64)), (.one (.int .i64))]), (5, [(.agg [(.int .i64), .slice]), (.one .bool), (.one (.int .i64))]), (6, [(.one (.int .i64)), (.one (.int .i64))]), (7, [(.agg [(.int .i64), .slice])]), (8, [(.agg [(.int .i64), .slice]), (.one .bool), (.one (.int .i64))]), (9, [(.one .slice), (.one (.int .i64))]), (10, [(.one (.int .i64)), (.one .bool), (.one (.int .i64))]), (11, [(.one (.int .i64))]), (12, [(.one (.int .i64))]), (13, [(.one (.int .i64))]), (14, [(.one (.int .i64))]), (15, [(.one (.int .i64))]), (16, [(.one (.int .i64))]), (17, [(.one (.int .i64))]), (18, [(.one (.int .i64))]), (19, [(.one .slice)]), (20, [(.one .bool)]), (21, [(.one .ptr)]), (22, [(.one .bool)]), (23, [(.one .bool)]), (24, [(.one .bool)]), (25, [(.agg [(.int .i64), .slice]), (.one .bool)]), (26, [(.one .ptr)]), (27, [(.one (.int .i64))]), (28, [(.agg [(.int .i64), .slice])]), (29, [(.one .bool)]), (30, []), (31, []), (32, [(.agg [(.int .i64), .slice])]), (33, [(.one (.int .i64))]), (34, [(.one .bool)]), (35, [(.one .bool)]), (36, []), (37, []), (38, []), (39, [(.agg [(.int .i64), (.int .i64), .str, (.int .i64), (.int .i64), (.int .i64), (.int .i64), .slice]), (.one (.int .i64))]), (40, []), (41, []), (42, [(.one .slice)]), (43, [(.one .slice)]), (44, [(.one .slice)]), (45, [(.one .slice)]), (46, [(.one .map)]), (47, [(.one .slice)]), (48, [(.one .map)]), (49, [(.one .slice)]), (50, [(.one .map)]), (51, [(.one .ptr), (.one (.int .i64))]), (52, [(.one .bool)]), (53, [(.agg [(.int .i64), .slice]), (.one (.int .i64))]), (54, [(.one .bool)]), (55, [(.one .slice)]), (56, []), (57, [(.one (.int .i64))]), (58, [(.one .slice)]), (59, []), (60, [(.one .bool)]), (61, []), (62, []), (63, []), (64, [(.one .slice)]), (65, [(.one .bool)]), (67, [(.one .bool)]), (68, [(.one .slice), (.one (.int .i64)), (.one (.int .i64))]), (69, [(.one .slice)]), (70, [(.one .bool)]), (71, [(.agg [(.int .i64), .slice])]), (72, [(.one (.int .i64))]), (73, [(.one (.int .i64))]), (74, [(.one .bool)]), (75, []), (76, [(.one (.int .i64))]), (77, [(.one .bool)]), (78, [(.one .bool)]), (79, [(.one .bool)]), (80, [(.one .str)]), (81, [(.one .bool)]), (82, [(.one .slice)]), (83, [(.one (.int .i64))]), (84, [(.one .bool)]), (85, [(.one .str)]), (86, [(.one .bool)]), (87, [(.one .bool)]), (88, [(.one .bool)]), (89, [(.one .bool)]), (90, [(.one .str)]), (91, [(.one .slice), (.one .slice)]), (92, [(.one (.int .i64))]), (93, [(.one .str)]), (94, [(.one .str)]), (95, [(.one .bool)]), (96, [(.one .bool)]), (97, [(.one .bool)]), (98, [(.one .bool)]), (99, [(.one .bool)]), (100, [(.one .bool)]), (101, [(.one .bool)]), (102, [(.one (.int .i64)), (.one .bool)]), (103, [(.one .bool)]), (104, [(.one .str)]), (105, [(.one .bool)]), (106, [(.one .str)]), (107, [(.one .slice)]), (108, [(.one .str)]), (109, [(.one .bool)]), (110, [(.one .bool)]), (111, [(.one .bool)]), (112, [(.one .str), (.one (.int .i64))]), (113, [(.one .str)]), (114, [(.one .slice)]), (115, [(.one .str)]), (116, [(.one .bool)]), (117, [(.one .bool)]), (118, [(.one .bool)]), (119, [(.one .bool)]), (120, [(.one .bool)]), (121, [(.one .bool)]), (122, [(.one .str), (.one (.int .i64))]), (123, [(.one .slice)]), (124, [(.one .slice)]), (125, [(.one .str)]), (126, [(.one (.int .i64))]), (127, []), (128, [(.one .slice), (.one .str)]), (129, [(.one .bool)]), (130, [(.one .bool)]), (131, [(.one .bool)]), (132, [(.one .bool)]), (133, [(.one .bool)]), (134, [(.one .str)]), (135, [(.one (.int .i32)), (.one (.int .i64))]), (136, [(.one .slice)]), (137, [(.one (.int .i64))]), (138, [(.one (.int .i64))]), (139, [(.one (.int .i64))]), (140, [(.one .bool)]), (141, [(.one (.int .i64))]), (142, [(.one .bool)]), (143, [(.one .bool)]), (144, [(.one (.int .i32)), (.one (.int .i64))]), (145, [(.one .bool)]), (146, [(.one .bool)]), (147, [(.one .slice)]), (148, [(.one .bool)]), (149, [(.one (.int .i64))]), (150, [(.one (.int .i64))]), (151, [(.one .bool)]), (152, [(.one (.int .i64)), (.one .bool)]), (153, [(.one (.int .i64)), (.one .bool)]), (154, [(.one .slice)])]
def etab : Tab := { ty := etabTy, fn := etabFn, tup := [(0, []), (24, [(.one (.int .i64)), (.one (.int .i64))]), (29, [(.agg [(.int .i64), .slice]), (.one .bool), (.one (.int .i64))]), (35, [(.one .slice), (.one (.int .i64))]), (37, [(.one (.int .i64)), (.one .bool), (.one (.int .i64))]), (49, [(.agg [(.int .i64), .slice]), (.one .bool)]), (82, [(.agg [(.int .i64), (.int .i64), .str, (.int .i64), (.int .i64), (.int .i64), (.int .i64), .slice]), (.one (.int .i64))]), (97, [(.one .ptr), (.one (.int .i64))]), (100, [(.agg [(.int .i64), .slice]), (.one (.int .i64))]), (111, [(.one (.int .i64)), (.one .bool)]), (119, [(.one .slice), (.one (.int .i64)), (.one (.int .i64))]), (139, [(.one .slice), (.one .slice)]), (151, [(.one .str), (.one (.int .i64))]), (162, [(.one .slice), (.one .str)]), (165, [(.one (.int .i32)), (.one (.int .i64))])] }
theorem etab_fn : FAll Tryz.prog etabFn := ⟨Tryz.call3, Tryz.call4, Tryz.call5, Tryz.call6, Tryz.call7, Tryz.call8, Tryz.call9, Tryz.call10, Tryz.call11, Tryz.call12, Tryz.call13, Tryz.call14, Tryz.call15, Tryz.call16, Tryz.call17, Tryz.call18, Tryz.call19, Tryz.call20, Tryz.call21, Tryz.call22, Tryz.call23, Tryz.call24, Tryz.call25, Tryz.call26, Tryz.call27, Tryz.call28, Tryz.call29, Tryz.call30, Tryz.call31, Tryz.call32, Tryz.call33, Tryz.call34, Tryz.call35, Tryz.call36, Tryz.call37, Tryz.call38, Tryz.call39, Tryz.call40, Tryz.call41, Tryz.call42, Tryz.call43, Tryz.call44, Tryz.call45, Tryz.call46, Tryz.call47, Tryz.call48, Tryz.call49, Tryz.call50, Tryz.call51, Tryz.call52, Tryz.call53, Tryz.call54, Tryz.call55, Tryz.call56, Tryz.call57, Tryz.call58, Tryz.call59, Tryz.call60, Tryz.call61, Tryz.call62, Tryz.call63, Tryz.call64, Tryz.call65, Tryz.call67, Tryz.call68, Tryz.call69, Tryz.call70, Tryz.call71, Tryz.call72, Tryz.call73, Tryz.call74, Tryz.call75, Tryz.call76, Tryz.call77, Tryz.call78, Tryz.call79, Tryz.call80, Tryz.call81, Tryz.call82, Tryz.call83, Tryz.call84, Tryz.call85, Tryz.call86, Tryz.call87, Tryz.call88, Tryz.call89, Tryz.call90, Tryz.call91, Tryz.call92, Tryz.call93, Tryz.call94, Tryz.call95, Tryz.call96, Tryz.call97, Tryz.call98, Tryz.call99, Tryz.call100, Tryz.call101, Tryz.call102, Tryz.call103, Tryz.call104, Tryz.call105, Tryz.call106, Tryz.call107, Tryz.call108, Tryz.call109, Tryz.call110, Tryz.call111, Tryz.call112, Tryz.call113, Tryz.call114, Tryz.call115, Tryz.call116, Tryz.call117, Tryz.call118, Tryz.call119, Tryz.call120, Tryz.call121, Tryz.call122, Tryz.call123, Tryz.call124, Tryz.call125, Tryz.call126, Tryz.call127, Tryz.call128, Tryz.call129, Tryz.call130, Tryz.call131, Tryz.call132, Tryz.call133, Tryz.call134, Tryz.call135, Tryz.call136, Tryz.call137, Tryz.call138, Tryz.call139, Tryz.call140, Tryz.call141, Tryz.call142, Tryz.call143, Tryz.call144, Tryz.call145, Tryz.call146, Tryz.call147, Tryz.call148, Tryz.call149, Tryz.call150, Tryz.call151, Tryz.call152, Tryz.call153, Tryz.call154, trivial⟩
theorem etab_zero : ZAll Tryz.prog etabTy := ⟨(show zeroOf Tryz.prog 1 = (List.toArray [.nilFunc]) from by kernel_rfl),
  (show zeroOf Tryz.prog 2 = (List.toArray [.int .i64 0]) from by kernel_rfl),
  (show zeroOf Tryz.prog 3 = (List.toArray [.int .i64 0]) from by kernel_rfl),
  (show zeroOf Tryz.prog 4 = (List.toArray [.bool false]) from by kernel_rfl),
  (show zeroOf Tryz.prog 5 = (List.toArray [.int .u8 0]) from by kernel_rfl),
  (show zeroOf Tryz.prog 6 = (List.toArray [.int .u8 0]) from by kernel_rfl),
  (show zeroOf Tryz.prog 9 = (List.toArray [.string ⟨#[]⟩]) from by kernel_rfl),
  (show zeroOf Tryz.prog 14 = (List.toArray [.string ⟨#[]⟩, .int .u64 0]) from by kernel_rfl),
  (show zeroOf Tryz.prog 20 = (List.toArray [.nilIface]) from by kernel_rfl),
  (show zeroOf Tryz.prog 21 = (List.toArray [.int .i32 0]) from by kernel_rfl),
  (show zeroOf Tryz.prog 22 = (List.toArray [.pointer none]) from by kernel_rfl),
  (show zeroOf Tryz.prog 23 = (List.toArray [.int .i64 0]) from by kernel_rfl),
  (show zeroOf Tryz.prog 26 = (List.toArray [.slice none 0 0]) from by kernel_rfl),
  (show zeroOf Tryz.prog 28 = (List.toArray [.int .i64 0, .slice none 0 0]) from by kernel_rfl),
  (show zeroOf Tryz.prog 34 = (List.toArray [.slice none 0 0]) from by kernel_rfl),
  (show zeroOf Tryz.prog 42 = (List.toArray [.slice none 0 0]) from by kernel_rfl),
  (show zeroOf Tryz.prog 43 = (List.toArray [.slice none 0 0]) from by kernel_rfl),
  (show zeroOf Tryz.prog 51 = (List.toArray [.slice none 0 0]) from by kernel_rfl),
  (show zeroOf Tryz.prog 52 = (List.toArray [.slice none 0 0]) from by kernel_rfl),
  (show zeroOf Tryz.prog 53 = (List.toArray [.slice none 0 0]) from by kernel_rfl),
  (show zeroOf Tryz.prog 54 = (List.toArray [.slice none 0 0]) from by kernel_rfl),
  (show zeroOf Tryz.prog 55 = (List.toArray [.slice none 0 0]) from by kernel_rfl),
  (show zeroOf Tryz.prog 57 = (List.toArray [.slice none 0 0, .slice none 0 0, .slice none 0 0, .slice none 0 0, .slice none 0 0, .slice none 0 0]) from by kernel_rfl),
  (show zeroOf Tryz.prog 59 = (List.toArray [.string ⟨#[]⟩, .int .i64 0, .int .i64 0, .int .i64 0, .int .i64 0]) from by kernel_rfl),
  (show zeroOf Tryz.prog 60 = (List.toArray [.pointer none]) from by kernel_rfl),
  (show zeroOf Tryz.prog 62 = (List.toArray [.slice none 0 0]) from by kernel_rfl),
  (show zeroOf Tryz.prog 63 = (List.toArray [.map none]) from by kernel_rfl),
  (show zeroOf Tryz.prog 65 = (List.toArray [.bool false, .int .i64 0, .int .i64 0, .int .i64 0, .slice none 0 0]) from by kernel_rfl),
  (show zeroOf Tryz.prog 66 = (List.toArray [.map none]) from by kernel_rfl),
  (show zeroOf Tryz.prog 68 = (List.toArray [.bool false, .int .i64 0, .slice none 0 0, .bool false, .int .i64 0, .slice none 0 0, .bool false, .slice none 0 0, .bool false, .int .i64 0, .int .i64 0, .slice none 0 0, .map none, .slice none 0 0, .bool false, .bool false, .int .i64 0, .bool false, .int .i64 0, .int .i64 0, .int .i64 0, .slice none 0 0, .slice none 0 0, .map none, .slice none 0 0, .int .i64 0, .bool false, .slice none 0 0, .int .i64 0, .map none, .map none, .slice none 0 0]) from by kernel_rfl),
  (show zeroOf Tryz.prog 72 = (List.toArray [.int .i64 0, .slice none 0 0, .int .i64 0, .slice none 0 0, .bool false]) from by kernel_rfl),
  (show zeroOf Tryz.prog 75 = (List.toArray [.nilFunc]) from by kernel_rfl),
  (show zeroOf Tryz.prog 78 = (List.toArray [.int .i64 0, .int .i64 0, .string ⟨#[]⟩, .int .i64 0, .int .i64 0, .int .i64 0, .int .i64 0, .slice none 0 0]) from by kernel_rfl),
  (show zeroOf Tryz.prog 79 = (List.toArray [.nilFunc]) from by kernel_rfl),
  (show zeroOf Tryz.prog 89 = (List.toArray [.map none]) from by kernel_rfl),
  (show zeroOf Tryz.prog 91 = (List.toArray [.map none]) from by kernel_rfl),
  (show zeroOf Tryz.prog 95 = (List.toArray [.map none]) from by kernel_rfl),
  (show zeroOf Tryz.prog 102 = (List.toArray [.slice none 0 0]) from by kernel_rfl),
  (show zeroOf Tryz.prog 104 = (List.toArray [.string ⟨#[]⟩, .int .i64 0, .string ⟨#[]⟩, .slice none 0 0, .slice none 0 0]) from by kernel_rfl),
  (show zeroOf Tryz.prog 105 = (List.toArray [.slice none 0 0]) from by kernel_rfl),
  (show zeroOf Tryz.prog 109 = (List.toArray [.int .i64 0, .string ⟨#[]⟩]) from by kernel_rfl),
  (show zeroOf Tryz.prog 110 = (List.toArray [.pointer none]) from by kernel_rfl),
  (show zeroOf Tryz.prog 127 = (List.toArray [.map none]) from by kernel_rfl),
  (show zeroOf Tryz.prog 135 = (List.toArray [.string ⟨#[]⟩, .string ⟨#[]⟩, .int .i64 0]) from by kernel_rfl),
  (show zeroOf Tryz.prog 141 = (List.toArray [.nilFunc]) from by kernel_rfl),
  (show zeroOf Tryz.prog 144 = (List.toArray [.slice none 0 0]) from by kernel_rfl),
  (show zeroOf Tryz.prog 149 = (List.toArray [.slice none 0 0]) from by kernel_rfl),
  (show zeroOf Tryz.prog 157 = (List.toArray [.int .u64 0]) from by kernel_rfl),
  (show zeroOf Tryz.prog 159 = (List.toArray [.int .u8 0, .int .u8 0, .int .u8 0, .int .u8 0, .int .u8 0, .int .u8 0, .int .u8 0, .int .u8 0, .int .u8 0, .int .u8 0, .int .u8 0, .int .u8 0, .int .u8 0, .int .u8 0, .int .u8 0, .int .u8 0, .int .u8 0, .int .u8 0, .int .u8 0, .int .u8 0, .int .u8 0, .int .u8 0, .int .u8 0, .int .u8 0]) from by kernel_rfl),
  (show zeroOf Tryz.prog 167 = (List.toArray [.int .u64 0]) from by kernel_rfl),
  (show zeroOf Tryz.prog 170 = (List.toArray [.int .u64 0, .int .u64 0, .int .u64 0, .int .u64 0, .int .u64 0, .int .u64 0, .int .u64 0, .int .u64 0, .int .u64 0, .int .u64 0, .int .u64 0, .int .u64 0, .int .u64 0, .int .u64 0, .int .u64 0, .int .u64 0, .int .u64 0, .int .u64 0, .int .u64 0, .int .u64 0]) from by kernel_rfl),
  (show zeroOf Tryz.prog 171 = (List.toArray [.int .u32 0]) from by kernel_rfl),
  trivial,
  trivial,
  (show zeroOf Tryz.prog 179 = (List.toArray [.int .u8 0, .int .u8 0]) from by kernel_rfl),
  (show zeroOf Tryz.prog 180 = (List.toArray [.int .u8 0, .int .u8 0, .int .u8 0, .int .u8 0, .int .u8 0, .int .u8 0, .int .u8 0, .int .u8 0, .int .u8 0, .int .u8 0, .int .u8 0, .int .u8 0, .int .u8 0, .int .u8 0, .int .u8 0, .int .u8 0, .int .u8 0, .int .u8 0, .int .u8 0, .int .u8 0, .int .u8 0, .int .u8 0, .int .u8 0, .int .u8 0, .int .u8 0, .int .u8 0, .int .u8 0, .int .u8 0, .int .u8 0, .int .u8 0, .int .u8 0, .int .u8 0]) from by kernel_rfl),
  (show zeroOf Tryz.prog 181 = (List.toArray [.int .u16 0]) from by kernel_rfl),
  (show zeroOf Tryz.prog 182 = (List.toArray [.slice none 0 0]) from by kernel_rfl),
  (show zeroOf Tryz.prog 184 = (List.toArray [.slice none 0 0]) from by kernel_rfl),
  (show zeroOf Tryz.prog 186 = (List.toArray [.int .u8 0, .int .u8 0, .int .u8 0, .int .u8 0, .int .u8 0, .int .u8 0, .int .u8 0, .int .u8 0, .int .u8 0, .int .u8 0, .int .u8 0, .int .u8 0, .int .u8 0, .int .u8 0, .int .u8 0, .int .u8 0, .int .u8 0, .int .u8 0, .int .u8 0, .int .u8 0, .int .u8 0, .int .u8 0, .int .u8 0, .int .u8 0, .int .u8 0, .int .u8 0, .int .u8 0, .int .u8 0, .int .u8 0, .int .u8 0, .int .u8 0, .int .u8 0]) from by kernel_rfl),
  trivial, trivial⟩
theorem etab_eq : EAll Tryz.prog etabTy := ⟨trivial, trivial, trivial, trivial, trivial, trivial, trivial, trivial, trivial, trivial, trivial, trivial, trivial, trivial, trivial, trivial, trivial, trivial, trivial, trivial, trivial, trivial, trivial, trivial, trivial, trivial, trivial, trivial, trivial, trivial, trivial, trivial, trivial, trivial, trivial, trivial, trivial, trivial, trivial, trivial, trivial, trivial, trivial, trivial, trivial, trivial, trivial, trivial, trivial, trivial, trivial, trivial, trivial, trivial, trivial, trivial, trivial, trivial, trivial, trivial, trivial, trivial⟩
theorem etabOk : etab.Ok Tryz.prog := Tab.Ok.of (by kernel_rfl) etab_zero etab_eq etab_fn
theorem emixed : Tryz.prog.follows .mixedOrders = true := by kernel_rfl
end Go.Proofs.YtkneoodgoadpaaaGreatDoor

namespace Go.Proofs.YtkneoodgoadpaaaGreatDoor
open Go Go.V Go.Proofs
/-! manystrand/manystrandlaw26.NetNil -/
def eann3 : Ann := (.two .nil (.two .nil (.two .nil (.two .nil (.two .nil (.two .nil (.two .nil (.two .nil (.two (.two .nil (.one (.one (.two .nil (.two (.two .nil .nil) (.two (.one (.two .nil (.two .nil (.two (.two .nil .nil) .nil)))) .nil)))))) (.two .nil .nil))))))))))
noncomputable def ecode3 : Code := match Tryz.f3.body with | some c => c | none => .skip
/-! (*manystrand/site.Net).Make -/
def eann4 : Ann := (.two .nil (.two (.two .nil (.two (.two .nil .nil) .nil)) (.two (.two .nil (.two (.two .nil .nil) .nil)) (.two .nil (.two (.two .nil (.one (.two (.two .nil (.two .nil .nil)) (.two .nil (.two (.two .nil (.two .nil .nil)) (.two (.two .nil (.two (.two .nil (.two (.two .nil .nil) .nil)) .nil)) (.two .nil .nil))))))) (.two (.two .nil (.two (.two .nil .nil) .nil)) (.two .nil (.two .nil (.two .nil (.two (.two .nil (.one (.two .nil (.two (.anyD 9 (.take 0 (.take 1 (.take 2 (.take 3 (.take 4 (.one 5 (.take 6 (.take 7 (.one 8 .done)))))))))) (.two .nil (.two (.anyD 9 (.take 0 (.take 1 (.take 2 (.take 3 (.take 4 (.one 5 (.take 6 (.take 7 (.one 8 .done)))))))))) .nil)))))) (.two .nil .nil)))))))))))
noncomputable def ecode4 : Code := match Tryz.f4.body with | some c => c | none => .skip
/-! (*manystrand/site.Net).Value -/
def eann5 : Ann := (.two .nil (.two (.two .nil (.two .nil (.two (.two .nil .nil) .nil))) (.two .nil (.two (.two .nil (.two (.two .nil .nil) .nil)) (.two (.two .nil (.two (.two .nil .nil) .nil)) (.two .nil .nil))))))
noncomputable def ecode5 : Code := match Tryz.f5.body with | some c => c | none => .skip
/-! (*manystrand/site.Net).Exchange -/
def eann6 : Ann := (.two .nil (.two (.two .nil (.two (.two .nil .nil) .nil)) (.two .nil (.two (.two .nil (.two (.two .nil .nil) .nil)) (.two (.two .nil (.two .nil (.two (.two .nil .nil) .nil))) (.two .nil (.two (.two .nil (.two (.two .nil .nil) .nil)) (.two (.anyD 12 (.take 0 (.take 1 (.take 2 (.take 3 (.take 4 (.take 5 (.take 6 (.one 7 (.one 8 (.take 9 (.take 10 (.one 11 .done))))))))))))) (.two (.anyD 15 (.take 0 (.take 1 (.take 2 (.take 3 (.take 4 (.take 5 (.take 6 (.take 7 (.take 8 (.take 9 (.one 10 (.one 11 (.take 12 (.take 13 (.one 14 .done)))))))))))))))) (.two (.two .nil (.two (.two .nil (.two .nil .nil)) .nil)) (.two (.two .nil (.two (.two .nil (.two .nil .nil)) .nil)) (.two .nil .nil))))))))))))
noncomputable def ecode6 : Code := match Tryz.f6.body with | some c => c | none => .skip
/-! manystrand/manystrandlaw26.atom -/
def eann7 : Ann := (.two .nil (.two .nil .nil))
noncomputable def ecode7 : Code := match Tryz.f7.body with | some c => c | none => .skip
/-! (*manystrand/site.Net).Done -/
def eann8 : Ann := (.two .nil (.two (.two .nil (.two (.two .nil .nil) .nil)) (.two (.two .nil (.two (.two .nil .nil) .nil)) (.two .nil (.two (.anyD 8 (.take 0 (.take 1 (.take 3 (.take 4 (.one 2 (.one 5 (.take 6 (.take 7 .done))))))))) .nil)))))
noncomputable def ecode8 : Code := match Tryz.f8.body with | some c => c | none => .skip
/-! (*manystrand/site.Net).Stream -/
def eann9 : Ann := (.two .nil (.two (.two .nil (.two (.two .nil .nil) .nil)) (.two (.two .nil (.two (.two .nil .nil) .nil)) (.two .nil (.two (.two .nil (.one (.one (.two .nil (.two (.two .nil .nil) (.two (.one (.two .nil .nil)) .nil)))))) (.two .nil .nil))))))
noncomputable def ecode9 : Code := match Tryz.f9.body with | some c => c | none => .skip
/-! (*manystrand/site.Net).Token -/
def eann10 : Ann := (.two .nil (.two (.two .nil (.two (.two .nil .nil) .nil)) (.two (.two (.anyD 23 (.take 0 (.take 1 (.take 2 (.take 3 (.take 4 (.take 5 (.take 6 (.take 7 (.take 8 (.take 9 (.take 10 (.take 11 (.take 12 (.take 13 (.take 14 (.take 15 (.take 16 (.take 17 (.take 18 (.take 19 (.take 20 (.take 21 (.take 22 .done)))))))))))))))))))))))) (.two (.two .nil .nil) .nil)) (.two (.two .nil (.one (.one (.two .nil (.two (.two .nil .nil) (.two (.one (.two .nil (.two .nil (.two (.two (.two .nil (.two (.two .nil .nil) .nil)) (.two .nil .nil)) .nil)))) .nil)))))) (.two (.anyD 9 (.take 0 (.take 1 (.take 2 (.take 3 (.take 4 (.take 5 (.take 6 (.take 7 (.one 8 .done)))))))))) (.two .nil (.two (.two (.anyD 24 (.take 0 (.take 1 (.take 2 (.take 3 (.take 4 (.take 5 (.take 6 (.take 7 (.take 8 (.take 9 (.take 10 (.take 11 (.take 12 (.take 13 (.take 14 (.take 15 (.take 16 (.take 17 (.take 18 (.take 19 (.take 20 (.take 21 (.take 22 (.take 23 .done))))))))))))))))))))))))) (.two (.two .nil .nil) .nil)) (.two .nil .nil))))))))
noncomputable def ecode10 : Code := match Tryz.f10.body with | some c => c | none => .skip
/-! (*manystrand/site.Net).Bind -/
def eann11 : Ann := (.two .nil (.two (.two .nil (.two (.two .nil .nil) .nil)) (.two .nil (.two (.two .nil (.two (.two .nil .nil) .nil)) (.two (.two .nil (.two .nil (.two (.two .nil .nil) .nil))) (.two (.two .nil (.two (.two .nil .nil) .nil)) (.two .nil (.two (.two .nil (.two (.two .nil (.two .nil .nil)) .nil)) (.two (.two .nil (.two (.two (.anyD 9 (.take 0 (.take 1 (.take 2 (.take 3 (.take 4 (.one 5 (.take 6 (.take 7 (.one 8 .done)))))))))) (.anyD 8 (.take 0 (.take 1 (.take 2 (.take 3 (.take 5 (.take 6 (.one 4 (.take 7 .done)))))))))) .nil)) (.two .nil .nil))))))))))
noncomputable def ecode11 : Code := match Tryz.f11.body with | some c => c | none => .skip
/-! (*manystrand/site.Net).Know -/
def eann12 : Ann := (.two .nil (.two (.two .nil (.two .nil (.two (.two .nil .nil) .nil))) (.two (.two .nil (.two (.two .nil .nil) .nil)) (.two .nil (.two (.two .nil (.two (.two .nil .nil) .nil)) (.two .nil .nil))))))
noncomputable def ecode12 : Code := match Tryz.f12.body with | some c => c | none => .skip
/-! (*manystrand/site.Net).Send -/
def eann13 : Ann := (.two .nil (.two (.two .nil (.two (.two .nil .nil) .nil)) (.two .nil (.two (.two .nil (.two (.two .nil .nil) .nil)) (.two (.two .nil (.two .nil (.two (.two .nil .nil) .nil))) (.two (.two .nil (.two (.two .nil .nil) .nil)) (.two .nil (.two .nil (.two (.anyD 12 (.take 0 (.take 1 (.take 2 (.take 4 (.take 5 (.take 6 (.take 7 (.take 8 (.take 9 (.both 3 (.take 10 (.one 11 .done)) (.one 11 (.one 3 (.take 10 .done)))))))))))))) (.two (.two .nil (.two (.two .nil (.two .nil .nil)) .nil)) (.two (.anyD 11 (.take 0 (.take 1 (.take 2 (.take 3 (.take 4 (.take 5 (.one 6 (.one 7 (.take 8 (.take 9 (.one 10 .done)))))))))))) (.two .nil (.two .nil .nil)))))))))))))
noncomputable def ecode13 : Code := match Tryz.f13.body with | some c => c | none => .skip
/-! (*manystrand/site.Net).Deliver -/
def eann14 : Ann := (.two .nil (.two .nil (.two (.two .nil (.two (.two .nil .nil) .nil)) (.two .nil (.two (.two (.anyD 8 (.take 0 (.take 1 (.take 2 (.take 3 (.take 4 (.take 5 (.take 6 (.take 7 .done))))))))) (.two .nil .nil)) (.two .nil .nil))))))
noncomputable def ecode14 : Code := match Tryz.f14.body with | some c => c | none => .skip
/-! (*manystrand/site.Net).Drop -/
def eann15 : Ann := (.two .nil (.two .nil (.two (.two .nil (.two (.two .nil .nil) .nil)) (.two (.two .nil (.two (.two .nil .nil) .nil)) (.two .nil (.two .nil .nil))))))
noncomputable def ecode15 : Code := match Tryz.f15.body with | some c => c | none => .skip
/-! (*manystrand/site.Net).Double -/
def eann16 : Ann := (.two .nil (.two .nil (.two (.two .nil (.two (.two .nil .nil) .nil)) (.two .nil (.two .nil .nil)))))
noncomputable def ecode16 : Code := match Tryz.f16.body with | some c => c | none => .skip
/-! (*manystrand/site.Net).Tick -/
def eann17 : Ann := (.two .nil (.two (.two .nil (.two (.two .nil .nil) .nil)) (.two (.two .nil (.two (.two .nil .nil) .nil)) (.two (.two .nil (.two (.two .nil .nil) .nil)) (.two (.two .nil (.one (.one (.two (.two .nil (.two .nil .nil)) (.two (.one (.two .nil (.two .nil (.two (.two .nil (.two (.two .nil (.two (.anyD 8 (.take 0 (.take 1 (.take 2 (.take 3 (.take 4 (.one 5 (.take 6 (.one 7 .done))))))))) .nil)) .nil)) (.two (.two .nil (.two (.two .nil (.two .nil .nil)) .nil)) (.two (.two .nil (.two (.two .nil (.two (.anyD 8 (.take 0 (.take 1 (.take 2 (.take 3 (.take 4 (.one 5 (.take 6 (.one 7 .done))))))))) .nil)) .nil)) (.two (.two .nil (.two (.anyD 19 (.take 0 (.take 1 (.take 2 (.take 3 (.take 4 (.take 5 (.take 6 (.take 7 (.take 8 (.take 9 (.take 10 (.take 11 (.take 12 (.take 13 (.take 14 (.take 15 (.take 16 (.take 17 (.take 18 .done)))))))))))))))))))) .nil)) (.two (.two .nil (.one (.one (.two .nil (.two (.two .nil .nil) (.two (.one (.two .nil .nil)) .nil)))))) (.two .nil (.one (.one (.two .nil (.two (.two .nil .nil) (.two (.one (.two .nil .nil)) .nil)))))))))))))) .nil))))) (.two .nil .nil))))))
noncomputable def ecode17 : Code := match Tryz.f17.body with | some c => c | none => .skip
/-! (*manystrand/site.Net).Fall -/
def eann18 : Ann := (.two .nil (.two (.two .nil (.two (.two .nil .nil) .nil)) (.two (.two .nil (.two (.two .nil .nil) .nil)) (.two (.two .nil (.two (.two .nil .nil) .nil)) (.two .nil (.two (.two .nil (.one (.one (.two .nil (.two (.two .nil .nil) (.two (.one (.two .nil (.two .nil (.two .nil .nil)))) .nil)))))) (.two .nil .nil)))))))
noncomputable def ecode18 : Code := match Tryz.f18.body with | some c => c | none => .skip
/-! (*manystrand/site.Net).Flying -/
def eann19 : Ann := (.two .nil (.two (.two .nil (.two (.two .nil .nil) .nil)) (.two .nil (.two (.two .nil (.one (.one (.two .nil (.two (.two .nil .nil) (.two (.one (.two .nil (.two .nil .nil))) .nil)))))) (.two .nil .nil)))))
noncomputable def ecode19 : Code := match Tryz.f19.body with | some c => c | none => .skip
/-! (*manystrand/site.Net).Fault -/
def eann20 : Ann := (.two .nil (.two (.two .nil (.two (.two .nil .nil) .nil)) (.two .nil .nil)))
noncomputable def ecode20 : Code := match Tryz.f20.body with | some c => c | none => .skip
/-! (*manystrand/site.Net).Copy -/
def eann21 : Ann := (.two .nil (.two (.two .nil (.two (.two .nil .nil) .nil)) (.two (.anyD 19 (.take 0 (.take 1 (.take 2 (.take 3 (.take 5 (.take 6 (.take 7 (.take 8 (.take 10 (.take 11 (.take 12 (.take 13 (.take 15 (.take 16 (.take 17 (.take 18 (.one 4 (.one 9 (.one 14 .done)))))))))))))))))))) (.two (.two .nil (.one (.one (.two .nil (.two (.two .nil .nil) (.two (.one (.two .nil (.two (.anyD 18 (.take 0 (.take 1 (.take 2 (.take 3 (.take 4 (.take 5 (.take 6 (.take 7 (.take 8 (.take 9 (.take 10 (.take 11 (.one 12 (.one 13 (.one 14 (.take 15 (.take 16 (.one 17 .done))))))))))))))))))) (.two .nil (.two (.two .nil (.one (.one (.two .nil (.two (.two .nil .nil) (.one (.two .nil (.two .nil (.two (.anyD 16 (.take 0 (.take 1 (.take 2 (.take 3 (.take 5 (.take 6 (.take 7 (.take 8 (.take 10 (.take 11 (.take 12 (.take 13 (.one 4 (.one 9 (.one 14 (.take 15 .done))))))))))))))))) (.two (.anyD 16 (.take 0 (.take 1 (.take 2 (.take 3 (.take 5 (.take 6 (.take 7 (.take 8 (.take 10 (.take 11 (.take 12 (.take 13 (.one 4 (.one 9 (.one 14 (.take 15 .done))))))))))))))))) (.two (.anyD 16 (.take 0 (.take 1 (.take 2 (.take 3 (.take 5 (.take 6 (.take 7 (.take 8 (.take 10 (.take 11 (.take 12 (.take 13 (.one 4 (.one 9 (.one 14 (.take 15 .done))))))))))))))))) (.two .nil (.two (.two .nil (.one (.one (.two .nil (.two (.two .nil .nil) (.one (.two .nil (.anyD 5 (.take 0 (.take 1 (.take 2 (.take 3 (.one 4 .done))))))))))))) .nil))))))))))))) .nil))))) .nil)))))) (.two .nil .nil)))))
noncomputable def ecode21 : Code := match Tryz.f21.body with | some c => c | none => .skip
/-! manystrand/manystrandlaw26.awake -/
def eann22 : Ann := (.two .nil (.two .nil (.two (.two .nil (.two (.two .nil .nil) .nil)) (.two .nil (.two .nil (.two .nil (.two .nil (.two .nil (.two (.anyD 24 (.take 0 (.take 1 (.take 2 (.take 3 (.take 4 (.take 5 (.take 6 (.take 7 (.take 8 (.take 9 (.take 10 (.take 11 (.take 12 (.take 13 (.take 14 (.take 15 (.take 16 (.take 17 (.take 18 (.take 19 (.take 20 (.take 21 (.take 22 (.one 23 .done))))))))))))))))))))))))) .nil)))))))))
noncomputable def ecode22 : Code := match Tryz.f22.body with | some c => c | none => .skip
/-! (*manystrand/site.Net).none -/
def eann23 : Ann := (.two .nil (.two .nil .nil))
noncomputable def ecode23 : Code := match Tryz.f23.body with | some c => c | none => .skip
/-! (*manystrand/site.Net).isSite -/
def eann24 : Ann := (.two .nil (.two .nil .nil))
noncomputable def ecode24 : Code := match Tryz.f24.body with | some c => c | none => .skip
/-! manystrand/site.value -/
def eann25 : Ann := (.two .nil (.two .nil (.two (.two .nil (.two (.two .nil .nil) .nil)) (.two (.two .nil (.one (.one (.two .nil (.two (.two .nil .nil) (.two (.one (.two .nil (.two .nil (.two (.two .nil .nil) .nil)))) .nil)))))) (.two .nil .nil)))))
noncomputable def ecode25 : Code := match Tryz.f25.body with | some c => c | none => .skip
/-! (*manystrand/site.Net).part -/
def eann26 : Ann := (.two .nil (.two .nil (.two (.two .nil (.two (.two .nil .nil) .nil)) (.two .nil .nil))))
noncomputable def ecode26 : Code := match Tryz.f26.body with | some c => c | none => .skip
/-! (*manystrand/site.Net).check -/
def eann27 : Ann := (.two .nil (.two (.two .nil (.two (.two .nil .nil) .nil)) (.two (.two .nil (.two (.two .nil .nil) .nil)) (.two (.two .nil (.two (.two .nil .nil) .nil)) (.two (.two .nil (.two (.two .nil .nil) .nil)) (.two .nil .nil))))))
noncomputable def ecode27 : Code := match Tryz.f27.body with | some c => c | none => .skip
/-! manystrand/site.copied -/
def eann28 : Ann := (.two .nil (.two .nil (.two (.two .nil (.one (.one (.two .nil (.two (.two .nil .nil) (.two (.one (.two .nil (.two (.anyD 7 (.take 0 (.take 1 (.take 3 (.take 4 (.one 2 (.take 6 (.one 5 .done)))))))) .nil))) .nil)))))) (.two .nil .nil))))
noncomputable def ecode28 : Code := match Tryz.f28.body with | some c => c | none => .skip
/-! (*manystrand/site.Net).lost -/
def eann29 : Ann := (.two .nil (.two (.anyD 12 (.take 0 (.take 1 (.take 2 (.take 3 (.take 4 (.take 5 (.take 6 (.take 7 (.take 8 (.one 9 (.one 10 (.take 11 .done))))))))))))) .nil))
noncomputable def ecode29 : Code := match Tryz.f29.body with | some c => c | none => .skip
/-! (*manystrand/site.Net).work -/
def eann30 : Ann := (.two .nil (.two (.two .nil (.one (.one (.two .nil (.two (.two .nil .nil) (.two (.one (.two .nil (.two .nil (.two .nil .nil)))) .nil)))))) (.two .nil (.two (.anyD 15 (.take 0 (.take 1 (.take 2 (.take 3 (.take 4 (.take 5 (.take 6 (.take 7 (.take 8 (.one 9 (.take 10 (.take 11 (.take 12 (.take 13 (.take 14 .done)))))))))))))))) (.two (.two .nil (.two .nil .nil)) (.two .nil (.two (.anyD 14 (.take 0 (.take 1 (.take 2 (.take 3 (.take 4 (.take 5 (.take 6 (.take 7 (.take 8 (.take 9 (.take 10 (.take 11 (.take 12 (.take 13 .done))))))))))))))) (.two (.anyD 34 (.take 0 (.take 1 (.take 2 (.take 3 (.take 4 (.take 5 (.take 6 (.take 7 (.take 8 (.take 9 (.take 10 (.take 11 (.take 12 (.take 13 (.take 14 (.take 15 (.take 16 (.take 17 (.take 18 (.take 19 (.take 20 (.take 21 (.take 22 (.take 23 (.take 24 (.take 25 (.take 26 (.one 27 (.take 28 (.take 29 (.one 30 (.take 31 (.take 32 (.one 33 .done))))))))))))))))))))))))))))))))))) (.two (.two .nil (.two .nil .nil)) (.anyD 14 (.take 0 (.take 1 (.take 2 (.take 3 (.take 4 (.take 5 (.take 6 (.take 7 (.take 8 (.take 9 (.take 10 (.take 11 (.take 12 (.take 13 .done))))))))))))))))))))))))
noncomputable def ecode30 : Code := match Tryz.f30.body with | some c => c | none => .skip
/-! (*manystrand/site.Net).ask -/
def eann31 : Ann := (.two .nil (.two (.two .nil (.two (.two .nil .nil) .nil)) .nil))
noncomputable def ecode31 : Code := match Tryz.f31.body with | some c => c | none => .skip
/-! manystrand/manystrandref05.Atom -/
def eann32 : Ann := (.two .nil (.two .nil .nil))
noncomputable def ecode32 : Code := match Tryz.f32.body with | some c => c | none => .skip
/-! (*manystrand/site.Net).owner -/
def eann33 : Ann := (.two .nil (.two .nil .nil))
noncomputable def ecode33 : Code := match Tryz.f33.body with | some c => c | none => .skip
/-! slices.ContainsFunc[[]manystrand/api.Message,manystrand/api.Message] -/
def eann34 : Ann := (.two .nil (.two .nil .nil))
noncomputable def ecode34 : Code := match Tryz.f34.body with | some c => c | none => .skip
/-! (*manystrand/site.Net).Token$1 -/
def eann35 : Ann := (.two .nil (.two .nil .nil))
noncomputable def ecode35 : Code := match Tryz.f35.body with | some c => c | none => .skip
/-! (*manystrand/site.Net).decide -/
def eann36 : Ann := (.two .nil (.two .nil (.two (.two .nil (.two .nil .nil)) (.two (.anyD 9 (.take 0 (.take 1 (.take 2 (.take 3 (.take 4 (.one 5 (.take 6 (.take 7 (.one 8 .done)))))))))) (.two (.two .nil (.one (.one (.two .nil (.two (.two .nil .nil) (.two (.one (.two .nil .nil)) .nil)))))) .nil)))))
noncomputable def ecode36 : Code := match Tryz.f36.body with | some c => c | none => .skip
/-! (*manystrand/site.Net).send -/
def eann37 : Ann := (.two .nil (.two .nil (.anyD 11 (.take 0 (.take 1 (.take 2 (.take 3 (.take 4 (.take 5 (.one 6 (.one 7 (.take 8 (.take 9 (.one 10 .done))))))))))))))
noncomputable def ecode37 : Code := match Tryz.f37.body with | some c => c | none => .skip
/-! (*manystrand/site.Net).take -/
def eann38 : Ann := (.two .nil (.two .nil (.two (.two (.anyD 10 (.take 0 (.take 1 (.take 2 (.take 3 (.take 4 (.take 5 (.take 6 (.take 7 (.one 8 (.take 9 .done))))))))))) (.two (.two (.two (.anyD 8 (.take 0 (.take 1 (.take 2 (.take 3 (.take 4 (.take 5 (.one 6 (.take 7 .done))))))))) (.two (.anyD 7 (.take 0 (.take 1 (.take 2 (.take 3 (.take 4 (.take 5 (.one 6 .done)))))))) .nil)) (.two (.anyD 16 (.take 0 (.take 1 (.take 2 (.take 3 (.take 4 (.take 5 (.take 7 (.take 8 (.both 6 (.both 9 (.take 10 (.take 11 (.take 12 (.one 13 (.one 14 (.take 15 .done)))))) (.one 13 (.one 9 (.take 10 (.take 11 (.take 12 (.one 14 (.take 15 .done)))))))) (.one 13 (.one 6 (.one 9 (.take 10 (.take 11 (.take 12 (.one 14 (.take 15 .done)))))))))))))))))) (.two .nil (.two (.anyD 11 (.take 0 (.take 1 (.take 2 (.take 3 (.take 4 (.take 5 (.take 7 (.take 8 (.take 9 (.take 10 (.one 6 .done)))))))))))) .nil)))) .nil)) (.one (.one (.one (.two (.anyD 22 (.take 0 (.take 1 (.take 2 (.take 3 (.take 4 (.take 5 (.take 7 (.take 8 (.take 9 (.take 10 (.take 11 (.take 12 (.both 6 (.both 13 (.take 14 (.both 15 (.take 16 (.take 17 (.take 18 (.one 19 (.one 20 (.take 21 .done)))))) (.one 19 (.one 15 (.take 16 (.take 17 (.take 18 (.one 20 (.take 21 .done))))))))) (.one 19 (.one 13 (.take 14 (.one 15 (.take 16 (.take 17 (.take 18 (.one 20 (.take 21 .done)))))))))) (.both 13 (.take 14 (.both 6 (.both 15 (.take 16 (.take 17 (.take 18 (.one 19 (.one 20 (.take 21 .done)))))) (.one 19 (.one 15 (.take 16 (.take 17 (.take 18 (.one 20 (.take 21 .done)))))))) (.one 19 (.one 6 (.one 15 (.take 16 (.take 17 (.take 18 (.one 20 (.take 21 .done)))))))))) (.one 19 (.both 6 (.one 13 (.take 14 (.one 15 (.take 16 (.take 17 (.take 18 (.one 20 (.take 21 .done)))))))) (.one 13 (.take 14 (.one 6 (.one 15 (.take 16 (.take 17 (.take 18 (.one 20 (.take 21 .done)))))))))))))))))))))))))) (.two (.two .nil (.two .nil .nil)) (.two (.anyD 8 (.take 0 (.take 1 (.take 2 (.take 3 (.take 4 (.take 5 (.one 6 (.take 7 .done))))))))) (.two (.anyD 14 (.take 0 (.take 1 (.take 2 (.take 3 (.take 4 (.take 5 (.take 7 (.take 8 (.take 9 (.take 10 (.take 11 (.take 12 (.both 6 (.one 13 .done) (.one 13 (.one 6 .done)))))))))))))))) (.anyD 11 (.take 0 (.take 1 (.take 2 (.take 3 (.take 4 (.take 5 (.one 6 (.one 7 (.take 8 (.take 9 (.one 10 .done))))))))))))))))))))))
noncomputable def ecode38 : Code := match Tryz.f38.body with | some c => c | none => .skip
/-! (*manystrand/site.Net).pick -/
def eann39 : Ann := (.two .nil (.two (.two .nil (.two (.two .nil .nil) .nil)) (.two (.two .nil (.two (.two .nil .nil) .nil)) (.two .nil .nil))))
noncomputable def ecode39 : Code := match Tryz.f39.body with | some c => c | none => .skip
/-! (*manystrand/site.Net).remove -/
def eann40 : Ann := .nil
noncomputable def ecode40 : Code := match Tryz.f40.body with | some c => c | none => .skip
/-! (*manystrand/site.Net).receive -/
def eann41 : Ann := (.two .nil (.two (.anyD 6 (.take 0 (.take 1 (.take 2 (.take 3 (.take 4 (.take 5 .done))))))) (.two .nil (.two (.two .nil (.two (.two .nil .nil) .nil)) (.two .nil (.two .nil (.one (.two .nil (.two (.two .nil (.two (.anyD 8 (.take 0 (.take 1 (.take 2 (.take 3 (.take 4 (.one 5 (.take 6 (.one 7 .done))))))))) .nil)) (.two .nil (.two (.two .nil (.two (.two (.anyD 8 (.take 0 (.take 1 (.take 2 (.take 3 (.take 4 (.one 5 (.take 6 (.one 7 .done))))))))) .nil) (.two (.anyD 6 (.take 0 (.take 1 (.take 2 (.take 3 (.take 4 (.take 5 .done))))))) (.two (.anyD 12 (.take 0 (.take 1 (.take 2 (.take 3 (.take 4 (.take 5 (.take 6 (.one 7 (.one 8 (.take 9 (.take 10 (.one 11 .done))))))))))))) .nil)))) (.two .nil (.two (.two (.two .nil (.two (.anyD 10 (.take 0 (.take 1 (.take 2 (.take 3 (.take 4 (.take 5 (.one 6 (.take 7 (.take 8 (.one 9 .done))))))))))) .nil)) .nil) (.two .nil (.two .nil (.two .nil (.two .nil (.two .nil (.two .nil (.two .nil (.two (.two (.two (.anyD 15 (.take 0 (.take 1 (.take 2 (.take 3 (.take 4 (.take 5 (.take 6 (.take 7 (.take 8 (.take 9 (.take 10 (.take 11 (.take 12 (.take 13 (.take 14 .done)))))))))))))))) (.two .nil .nil)) .nil) (.two .nil (.two (.two .nil (.two (.anyD 6 (.take 0 (.take 1 (.take 2 (.one 3 (.take 4 (.one 5 .done))))))) .nil)) (.two .nil (.two .nil (.two .nil (.two (.two .nil .nil) .nil)))))))))))))))))))))))))))
noncomputable def ecode41 : Code := match Tryz.f41.body with | some c => c | none => .skip
/-! slices.Clone[[]bool,bool] -/
def eann42 : Ann := (.two .nil (.two (.two .nil (.two (.two .nil .nil) .nil)) (.two .nil .nil)))
noncomputable def ecode42 : Code := match Tryz.f42.body with | some c => c | none => .skip
/-! slices.Clone[[]manystrand/site.entity,manystrand/site.entity] -/
def eann43 : Ann := (.two .nil (.two (.two .nil (.two (.two .nil .nil) .nil)) (.two .nil .nil)))
noncomputable def ecode43 : Code := match Tryz.f43.body with | some c => c | none => .skip
/-! slices.Clone[[]manystrand/site.exchange,manystrand/site.exchange] -/
def eann44 : Ann := (.two .nil (.two (.two .nil (.two (.two .nil .nil) .nil)) (.two .nil .nil)))
noncomputable def ecode44 : Code := match Tryz.f44.body with | some c => c | none => .skip
/-! slices.Clone[[]manystrand/api.Message,manystrand/api.Message] -/
def eann45 : Ann := (.two .nil (.two (.two .nil (.two (.two .nil .nil) .nil)) (.two .nil .nil)))
noncomputable def ecode45 : Code := match Tryz.f45.body with | some c => c | none => .skip
/-! maps.Clone[map[int]bool,int,bool] -/
def eann46 : Ann := (.two .nil (.two (.two .nil (.two (.two .nil .nil) .nil)) (.two .nil .nil)))
noncomputable def ecode46 : Code := match Tryz.f46.body with | some c => c | none => .skip
/-! slices.Clone[[]int,int] -/
def eann47 : Ann := (.two .nil (.two (.two .nil (.two (.two .nil .nil) .nil)) (.two .nil .nil)))
noncomputable def ecode47 : Code := match Tryz.f47.body with | some c => c | none => .skip
/-! maps.Clone[map[int]int,int,int] -/
def eann48 : Ann := (.two .nil (.two (.two .nil (.two (.two .nil .nil) .nil)) (.two .nil .nil)))
noncomputable def ecode48 : Code := match Tryz.f48.body with | some c => c | none => .skip
/-! slices.Clone[[]manystrand/api.Graph,manystrand/api.Graph] -/
def eann49 : Ann := (.two .nil (.two (.two .nil (.two (.two .nil .nil) .nil)) (.two .nil .nil)))
noncomputable def ecode49 : Code := match Tryz.f49.body with | some c => c | none => .skip
/-! maps.Clone[map[int]manystrand/api.Graph,int,manystrand/api.Graph] -/
def eann50 : Ann := (.two .nil (.two (.two .nil (.two (.two .nil .nil) .nil)) (.two .nil .nil)))
noncomputable def ecode50 : Code := match Tryz.f50.body with | some c => c | none => .skip
/-! manystrand/site.New -/
def eann51 : Ann := (.two .nil (.two (.two .nil (.two (.two .nil .nil) .nil)) (.two .nil (.two (.two .nil (.one (.one (.two .nil (.two (.two .nil .nil) (.two (.one (.two .nil (.two .nil .nil))) .nil)))))) (.two .nil .nil)))))
noncomputable def ecode51 : Code := match Tryz.f51.body with | some c => c | none => .skip
/-! manystrand/manystrandref05.Equal -/
def eann52 : Ann := (.two .nil (.two (.two .nil (.two (.two .nil .nil) .nil)) (.two .nil (.two .nil (.two (.anyD 10 (.take 0 (.take 1 (.take 2 (.take 3 (.take 4 (.take 5 (.take 6 (.take 7 (.take 8 (.take 9 .done))))))))))) .nil)))))
noncomputable def ecode52 : Code := match Tryz.f52.body with | some c => c | none => .skip
/-! manystrand/graph.Least -/
def eann53 : Ann := (.two .nil (.two (.two .nil (.two (.two .nil .nil) .nil)) (.two .nil .nil)))
noncomputable def ecode53 : Code := match Tryz.f53.body with | some c => c | none => .skip
/-! slices.Contains[[]string,string] -/
def eann54 : Ann := (.two .nil (.two .nil .nil))
noncomputable def ecode54 : Code := match Tryz.f54.body with | some c => c | none => .skip
/-! slices.Clone[[]manystrand/api.Feat,manystrand/api.Feat] -/
def eann55 : Ann := (.two .nil (.two (.two .nil (.two (.two .nil .nil) .nil)) (.two .nil .nil)))
noncomputable def ecode55 : Code := match Tryz.f55.body with | some c => c | none => .skip
/-! (*manystrand/site.Net).onWant -/
def eann56 : Ann := (.two .nil (.two .nil (.two .nil (.two (.two .nil (.two (.two (.two .nil (.two .nil .nil)) .nil) .nil)) (.two (.two (.anyD 10 (.take 0 (.take 1 (.take 2 (.take 3 (.take 4 (.take 5 (.take 6 (.take 7 (.one 8 (.take 9 .done))))))))))) (.two .nil .nil)) (.two (.anyD 8 (.take 0 (.take 1 (.take 2 (.take 3 (.take 4 (.take 5 (.take 6 (.take 7 .done))))))))) (.two (.anyD 12 (.take 0 (.take 1 (.take 2 (.take 3 (.take 4 (.take 5 (.take 6 (.one 7 (.one 8 (.take 9 (.take 10 (.one 11 .done))))))))))))) (.two .nil (.two .nil (.two .nil (.two (.two .nil (.two (.two .nil .nil) .nil)) (.two (.two .nil (.two (.anyD 11 (.take 0 (.take 1 (.take 2 (.take 3 (.take 4 (.take 5 (.one 6 (.one 7 (.take 8 (.take 9 (.one 10 .done)))))))))))) .nil)) .nil))))))))))))
noncomputable def ecode56 : Code := match Tryz.f56.body with | some c => c | none => .skip
/-! slices.IndexFunc[[]manystrand/api.Message,manystrand/api.Message] -/
def eann57 : Ann := (.two .nil (.two (.two .nil (.one (.one (.two .nil (.two (.two .nil .nil) (.two (.one (.two .nil (.two .nil (.two (.two .nil .nil) .nil)))) .nil)))))) (.two .nil .nil)))
noncomputable def ecode57 : Code := match Tryz.f57.body with | some c => c | none => .skip
/-! slices.Delete[[]manystrand/api.Message,manystrand/api.Message] -/
def eann58 : Ann := (.two .nil (.two .nil (.two (.two .nil (.two (.two .nil .nil) .nil)) (.two .nil (.two (.anyD 6 (.take 0 (.take 1 (.take 2 (.take 3 (.take 4 (.take 5 .done))))))) (.two .nil (.two .nil .nil)))))))
noncomputable def ecode58 : Code := match Tryz.f58.body with | some c => c | none => .skip
/-! (*manystrand/site.Net).onFell -/
def eann59 : Ann := (.two .nil (.two (.two (.anyD 9 (.take 0 (.take 1 (.take 2 (.take 3 (.take 4 (.take 5 (.take 6 (.take 7 (.one 8 .done)))))))))) (.two .nil .nil)) (.two (.anyD 8 (.take 0 (.take 1 (.take 2 (.take 3 (.take 4 (.take 5 (.take 6 (.take 7 .done))))))))) (.two .nil (.one (.one (.two (.two .nil (.two .nil .nil)) (.two (.one (.two .nil (.two (.two (.anyD 5 (.take 0 (.take 1 (.take 3 (.one 2 (.take 4 .done)))))) (.two .nil .nil)) (.two (.two (.anyD 14 (.take 0 (.take 1 (.take 2 (.take 3 (.take 4 (.take 5 (.take 6 (.take 7 (.take 8 (.take 9 (.take 10 (.take 11 (.take 12 (.take 13 .done))))))))))))))) (.two .nil .nil)) (.two .nil (.two .nil (.two .nil .nil))))))) .nil))))))))
noncomputable def ecode59 : Code := match Tryz.f59.body with | some c => c | none => .skip
/-! slices.Contains[[]int,int] -/
def eann60 : Ann := (.two .nil (.two .nil .nil))
noncomputable def ecode60 : Code := match Tryz.f60.body with | some c => c | none => .skip
/-! (*manystrand/site.Net).onPass -/
def eann61 : Ann := (.two .nil (.two (.two .nil (.two .nil (.two .nil .nil))) (.two .nil (.two .nil .nil))))
noncomputable def ecode61 : Code := match Tryz.f61.body with | some c => c | none => .skip
/-! (*manystrand/site.Net).onToken -/
def eann62 : Ann := (.two .nil (.two (.anyD 6 (.take 0 (.take 1 (.take 2 (.take 3 (.take 4 (.take 5 .done))))))) (.two .nil (.two (.anyD 18 (.take 0 (.take 1 (.take 2 (.take 3 (.take 4 (.take 5 (.take 6 (.take 7 (.take 8 (.take 9 (.take 10 (.take 11 (.take 12 (.take 13 (.take 14 (.take 15 (.take 16 (.take 17 .done))))))))))))))))))) (.two (.two .nil (.two (.two (.anyD 16 (.take 0 (.take 1 (.take 2 (.take 3 (.take 4 (.take 5 (.take 6 (.take 7 (.take 8 (.one 9 (.take 10 (.take 11 (.one 12 (.take 13 (.take 14 (.one 15 .done))))))))))))))))) .nil) .nil)) (.two .nil (.two (.two .nil (.two (.two (.two .nil (.one (.one (.two .nil (.two (.two .nil .nil) (.two (.one (.two .nil (.two .nil (.two .nil .nil)))) .nil)))))) .nil) .nil)) (.two .nil (.two .nil (.two (.two .nil (.two .nil (.two .nil (.two (.two .nil .nil) .nil)))) (.two .nil (.two .nil .nil))))))))))))
noncomputable def ecode62 : Code := match Tryz.f62.body with | some c => c | none => .skip
/-! (*manystrand/site.Net).onGot -/
def eann63 : Ann := (.two (.two .nil (.two .nil .nil)) (.two .nil (.two (.anyD 9 (.take 0 (.take 1 (.take 2 (.take 3 (.take 4 (.take 5 (.take 6 (.take 7 (.take 8 .done)))))))))) (.anyD 10 (.take 0 (.take 1 (.take 2 (.take 3 (.take 4 (.both 5 (.one 6 (.one 7 (.take 8 (.take 9 .done)))) (.one 6 (.one 5 (.one 7 (.take 8 (.take 9 .done)))))))))))))))
noncomputable def ecode63 : Code := match Tryz.f63.body with | some c => c | none => .skip
/-! slices.DeleteFunc[[]manystrand/api.Message,manystrand/api.Message] -/
def eann64 : Ann := (.two .nil (.two .nil (.two (.two .nil (.two (.two .nil .nil) .nil)) (.two (.two .nil (.one (.one (.two (.two .nil (.two .nil .nil)) (.two (.one (.two .nil (.two .nil (.two (.two .nil .nil) .nil)))) .nil))))) (.two .nil (.two .nil .nil))))))
noncomputable def ecode64 : Code := match Tryz.f64.body with | some c => c | none => .skip
/-! (*manystrand/site.Net).receive$1 -/
def eann65 : Ann := (.two .nil (.two .nil .nil))
noncomputable def ecode65 : Code := match Tryz.f65.body with | some c => c | none => .skip
/-! manystrand/manystrandref05.Valid -/
def eann67 : Ann := (.two .nil (.two .nil .nil))
noncomputable def ecode67 : Code := match Tryz.f67.body with | some c => c | none => .skip
/-! manystrand/manystrandref05.joined -/
def eann68 : Ann := (.two .nil (.two .nil (.two (.two .nil (.one (.one (.two (.two .nil (.two .nil .nil)) (.two (.one (.two .nil (.two .nil (.two (.two .nil (.one (.one (.two (.two .nil (.two .nil .nil)) (.two (.one (.anyD 10 (.take 0 (.take 1 (.take 2 (.take 3 (.take 4 (.take 5 (.take 6 (.take 7 (.take 8 (.take 9 .done)))))))))))) .nil))))) .nil)))) .nil))))) (.two (.anyD 12 (.take 0 (.take 1 (.take 2 (.take 3 (.take 4 (.take 5 (.take 6 (.take 7 (.take 8 (.take 9 (.take 10 (.take 11 .done))))))))))))) .nil))))
noncomputable def ecode68 : Code := match Tryz.f68.body with | some c => c | none => .skip
/-! manystrand/manystrandref05.Classes -/
def eann69 : Ann := (.two .nil (.two .nil (.two .nil (.two (.two .nil (.one (.one (.two (.two .nil (.two .nil .nil)) (.one (.two .nil (.two .nil (.one (.one (.two (.two .nil (.two .nil .nil)) (.two (.one (.two (.two .nil (.two .nil .nil)) (.two .nil (.two (.two .nil (.two .nil .nil)) .nil)))) .nil))))))))))) (.two .nil (.two .nil (.two .nil (.one (.one (.one (.two .nil (.two .nil (.two (.two .nil (.one (.one (.two (.two .nil (.two .nil .nil)) (.two (.one (.two (.two .nil (.two .nil .nil)) (.two .nil (.two (.two .nil (.two .nil .nil)) .nil)))) .nil))))) (.two (.two .nil (.two (.two .nil .nil) .nil)) .nil))))))))))))))
noncomputable def ecode69 : Code := match Tryz.f69.body with | some c => c | none => .skip
/-! manystrand/graph.Valid -/
def eann70 : Ann := (.two .nil (.two .nil (.two (.two .nil (.two (.two .nil .nil) .nil)) (.two (.two .nil (.one (.one (.two .nil (.two (.two .nil .nil) (.two (.one (.two .nil (.two .nil (.two (.two .nil .nil) .nil)))) .nil)))))) (.two .nil .nil)))))
noncomputable def ecode70 : Code := match Tryz.f70.body with | some c => c | none => .skip
/-! manystrand/graph.least -/
def eann71 : Ann := (.two .nil (.two .nil (.two .nil (.two .nil (.two .nil (.two .nil (.two .nil (.two .nil .nil))))))))
noncomputable def ecode71 : Code := match Tryz.f71.body with | some c => c | none => .skip
/-! slices.Index[[]string,string] -/
def eann72 : Ann := (.two .nil (.two (.two .nil (.one (.one (.two .nil (.two (.two .nil .nil) (.two (.one (.two .nil (.two .nil (.two (.two .nil .nil) .nil)))) .nil)))))) (.two .nil .nil)))
noncomputable def ecode72 : Code := match Tryz.f72.body with | some c => c | none => .skip
/-! (*manystrand/site.Net).ahead -/
def eann73 : Ann := (.two .nil (.two (.two .nil (.two (.two .nil .nil) .nil)) (.two .nil .nil)))
noncomputable def ecode73 : Code := match Tryz.f73.body with | some c => c | none => .skip
/-! (*manystrand/site.Net).onFell$1 -/
def eann74 : Ann := (.two .nil (.two .nil .nil))
noncomputable def ecode74 : Code := match Tryz.f74.body with | some c => c | none => .skip
/-! (*manystrand/site.Net).look -/
def eann75 : Ann := (.two .nil (.two .nil (.two (.two .nil (.one (.one (.two (.two .nil (.two .nil .nil)) (.two (.one .nil) .nil))))) (.two (.two .nil (.two .nil .nil)) (.two .nil (.two .nil (.two .nil (.one (.one (.two (.two .nil (.two .nil .nil)) (.two (.one (.two .nil (.two .nil (.two (.two .nil .nil) .nil)))) .nil)))))))))))
noncomputable def ecode75 : Code := match Tryz.f75.body with | some c => c | none => .skip
/-! slices.Index[[]int,int] -/
def eann76 : Ann := (.two .nil (.two (.two .nil (.one (.one (.two .nil (.two (.two .nil .nil) (.two (.one (.two .nil (.two .nil (.two (.two .nil .nil) .nil)))) .nil)))))) (.two .nil .nil)))
noncomputable def ecode76 : Code := match Tryz.f76.body with | some c => c | none => .skip
/-! (*manystrand/site.Net).onGot$1 -/
def eann77 : Ann := (.two .nil (.two (.anyD 8 (.take 0 (.take 1 (.take 2 (.take 3 (.take 4 (.take 5 (.take 6 (.take 7 .done))))))))) .nil))
noncomputable def ecode77 : Code := match Tryz.f77.body with | some c => c | none => .skip
/-! manystrand/manystrandref05.ValidBut -/
def eann78 : Ann := (.two .nil (.two (.two .nil (.two (.two .nil .nil) .nil)) (.two (.two .nil (.one (.one (.two (.two .nil (.two .nil .nil)) (.two (.one (.two (.anyD 8 (.take 0 (.take 1 (.take 2 (.take 3 (.take 4 (.take 5 (.take 6 (.take 7 .done))))))))) (.two (.two .nil .nil) .nil))) .nil))))) (.two .nil .nil))))
noncomputable def ecode78 : Code := match Tryz.f78.body with | some c => c | none => .skip
/-! manystrand/manystrandref05.ready -/
def eann79 : Ann := (.two .nil (.two (.two .nil (.one (.one (.two (.two .nil (.two .nil .nil)) (.two (.one (.two .nil (.two (.two .nil .nil) .nil))) .nil))))) (.two .nil .nil)))
noncomputable def ecode79 : Code := match Tryz.f79.body with | some c => c | none => .skip
/-! manystrand/manystrandref05.key -/
def eann80 : Ann := (.two .nil (.two (.anyD 13 (.take 0 (.take 1 (.take 2 (.take 3 (.take 4 (.take 8 (.take 9 (.one 5 (.take 6 (.take 7 (.take 10 (.take 11 (.take 12 .done)))))))))))))) (.two (.two .nil (.one (.one (.two (.two .nil (.two .nil .nil)) (.two (.one (.anyD 30 (.take 0 (.take 1 (.take 2 (.take 3 (.take 4 (.take 5 (.take 6 (.take 9 (.take 10 (.take 11 (.take 12 (.take 13 (.take 14 (.take 17 (.take 18 (.take 19 (.take 20 (.take 21 (.take 22 (.take 23 (.take 24 (.one 7 (.take 8 (.take 15 (.take 16 (.one 25 (.take 26 (.take 27 (.take 28 (.take 29 .done)))))))))))))))))))))))))))))))) .nil))))) (.two .nil .nil))))
noncomputable def ecode80 : Code := match Tryz.f80.body with | some c => c | none => .skip
/-! manystrand/graph.fine -/
def eann81 : Ann := (.two .nil (.two .nil (.two (.two .nil (.one (.two .nil (.two (.two .nil .nil) (.two .nil (.two (.two .nil .nil) (.two .nil (.two (.two .nil .nil) (.two .nil (.two (.two (.two .nil (.two (.two .nil .nil) .nil)) (.two (.two .nil (.one (.one (.two .nil (.two (.two .nil .nil) (.two (.one (.two .nil (.two (.anyD 14 (.take 0 (.one 1 (.take 2 (.take 3 (.take 4 (.take 5 (.take 6 (.take 7 (.take 9 (.take 10 (.both 8 (.take 11 (.both 12 (.one 13 .done) (.one 13 (.one 12 .done)))) (.one 13 (.one 8 (.take 11 (.one 12 .done)))))))))))))))) (.two (.two .nil .nil) .nil)))) .nil)))))) (.two (.two .nil (.one (.one (.two .nil (.two (.two .nil .nil) (.two (.one (.two .nil (.two .nil (.two (.two .nil .nil) .nil)))) .nil)))))) (.two .nil .nil)))) .nil)))))))))) (.two .nil .nil))))
noncomputable def ecode81 : Code := match Tryz.f81.body with | some c => c | none => .skip
/-! manystrand/graph.classes -/
def eann82 : Ann := (.two .nil (.two .nil (.two .nil (.two (.two .nil (.one (.one (.two .nil (.two (.two .nil .nil) (.two (.one (.two .nil .nil)) .nil)))))) (.two .nil (.two .nil (.two .nil (.two (.two .nil (.one (.one (.two .nil (.two (.two .nil .nil) (.two (.one (.two .nil (.anyD 17 (.take 0 (.take 1 (.take 2 (.take 3 (.take 4 (.take 5 (.take 6 (.take 7 (.take 8 (.take 9 (.take 10 (.take 11 (.take 12 (.one 13 (.take 14 (.one 15 (.take 16 .done)))))))))))))))))))) .nil)))))) (.two .nil (.two .nil (.two (.two .nil (.one (.one (.two .nil (.two (.two .nil .nil) (.two (.one (.two .nil (.two .nil (.two .nil .nil)))) .nil)))))) (.two .nil (.one (.one (.one (.two .nil (.two .nil (.two (.two .nil (.one (.one (.two .nil (.two (.two .nil .nil) (.two (.one (.two .nil (.two .nil (.two (.two .nil (.two .nil .nil)) (.two .nil (.two (.two .nil (.two (.two .nil .nil) .nil)) .nil)))))) .nil)))))) (.two (.two .nil (.one (.one (.two .nil (.two (.two .nil .nil) (.two (.one (.two .nil .nil)) .nil)))))) (.two (.two .nil (.two (.two .nil .nil) .nil)) .nil))))))))))))))))))))
noncomputable def ecode82 : Code := match Tryz.f82.body with | some c => c | none => .skip
/-! manystrand/graph.least$1 -/
def eann83 : Ann := (.two .nil (.two (.two (.anyD 11 (.take 0 (.take 1 (.take 2 (.take 3 (.take 4 (.one 5 (.take 6 (.take 7 (.take 8 (.take 9 (.take 10 .done)))))))))))) (.two .nil (.two (.two .nil .nil) .nil))) (.two .nil (.two (.anyD 6 (.take 0 (.take 1 (.take 2 (.take 3 (.take 4 (.take 5 .done))))))) (.two .nil (.two .nil (.two .nil (.two .nil (.two (.two .nil (.one (.one (.two .nil (.two (.two .nil .nil) (.two (.one (.two .nil (.anyD 7 (.take 0 (.take 1 (.take 2 (.take 3 (.take 4 (.one 5 (.take 6 .done)))))))))) .nil)))))) (.two .nil .nil))))))))))
noncomputable def ecode83 : Code := match Tryz.f83.body with | some c => c | none => .skip
/-! manystrand/manystrandref05.ValidNode -/
def eann84 : Ann := (.two .nil (.two (.two .nil (.one (.two .nil (.two (.two .nil .nil) (.two .nil (.two (.two .nil .nil) (.two .nil (.two (.two .nil .nil) (.two .nil (.two (.two (.two .nil (.two (.two .nil .nil) .nil)) (.two (.two .nil (.one (.one (.two (.two .nil (.two .nil .nil)) (.two (.one (.two (.anyD 43 (.take 0 (.take 1 (.take 2 (.take 3 (.take 4 (.one 5 (.take 6 (.take 7 (.take 8 (.take 9 (.take 10 (.take 11 (.take 13 (.take 14 (.take 17 (.take 19 (.both 12 (.take 15 (.both 16 (.one 18 (.take 20 (.one 21 (.one 22 (.take 23 (.take 24 (.take 25 (.take 26 (.take 27 (.take 29 (.one 28 (.take 30 (.one 31 (.take 32 (.take 33 (.take 34 (.take 35 (.take 37 (.take 40 (.one 36 (.take 38 (.one 39 (.take 41 (.take 42 .done)))))))))))))))))))))))) (.one 18 (.take 20 (.both 16 (.one 21 (.one 22 (.take 23 (.take 24 (.take 25 (.take 26 (.take 27 (.take 29 (.one 28 (.take 30 (.one 31 (.take 32 (.take 33 (.take 34 (.take 35 (.take 37 (.take 40 (.one 36 (.take 38 (.one 39 (.take 41 (.take 42 .done)))))))))))))))))))))) (.one 21 (.one 16 (.one 22 (.take 23 (.take 24 (.take 25 (.take 26 (.take 27 (.take 29 (.one 28 (.take 30 (.one 31 (.take 32 (.take 33 (.take 34 (.take 35 (.take 37 (.take 40 (.one 36 (.take 38 (.one 39 (.take 41 (.take 42 .done)))))))))))))))))))))))))))) (.one 18 (.take 20 (.both 12 (.take 15 (.both 16 (.one 21 (.one 22 (.take 23 (.take 24 (.take 25 (.take 26 (.take 27 (.take 29 (.one 28 (.take 30 (.one 31 (.take 32 (.take 33 (.take 34 (.take 35 (.take 37 (.take 40 (.one 36 (.take 38 (.one 39 (.take 41 (.take 42 .done)))))))))))))))))))))) (.one 21 (.one 16 (.one 22 (.take 23 (.take 24 (.take 25 (.take 26 (.take 27 (.take 29 (.one 28 (.take 30 (.one 31 (.take 32 (.take 33 (.take 34 (.take 35 (.take 37 (.take 40 (.one 36 (.take 38 (.one 39 (.take 41 (.take 42 .done))))))))))))))))))))))))) (.one 21 (.one 12 (.take 15 (.one 16 (.one 22 (.take 23 (.take 24 (.take 25 (.take 26 (.take 27 (.take 29 (.one 28 (.take 30 (.one 31 (.take 32 (.take 33 (.take 34 (.take 35 (.take 37 (.take 40 (.one 36 (.take 38 (.one 39 (.take 41 (.take 42 .done)))))))))))))))))))))))))))))))))))))))))))))) (.two (.two .nil .nil) .nil))) .nil))))) (.two .nil .nil))) .nil)))))))))) (.two .nil .nil)))
noncomputable def ecode84 : Code := match Tryz.f84.body with | some c => c | none => .skip
/-! manystrand/manystrandref02.Decimal -/
def eann85 : Ann := (.two .nil (.two (.two .nil (.two (.two .nil .nil) .nil)) (.two (.two .nil (.two (.two .nil .nil) .nil)) (.two .nil .nil))))
noncomputable def ecode85 : Code := match Tryz.f85.body with | some c => c | none => .skip
/-! manystrand/graph.isSort -/
def eann86 : Ann := (.two .nil (.two (.two .nil (.one (.two (.two .nil (.two .nil (.two .nil (.two .nil (.two .nil (.two .nil (.two .nil (.two .nil (.two .nil (.two .nil (.two .nil (.two .nil (.two .nil (.two .nil (.two .nil (.two .nil (.two .nil (.two .nil .nil)))))))))))))))))) (.two (.two .nil .nil) .nil)))) (.two .nil .nil)))
noncomputable def ecode86 : Code := match Tryz.f86.body with | some c => c | none => .skip
/-! manystrand/token.Valid -/
def eann87 : Ann := (.two .nil (.two .nil (.two (.two .nil (.one (.two .nil (.two (.two .nil .nil) (.two (.two .nil (.two .nil .nil)) (.two (.two .nil (.two (.two .nil (.two .nil .nil)) (.two .nil .nil))) (.two .nil (.two (.two (.two .nil (.two (.two .nil .nil) .nil)) (.two .nil (.two .nil .nil))) (.two .nil (.two (.two .nil .nil) (.two .nil (.two (.two .nil .nil) (.two .nil (.two (.two .nil .nil) .nil)))))))))))))) (.two .nil .nil))))
noncomputable def ecode87 : Code := match Tryz.f87.body with | some c => c | none => .skip
/-! manystrand/tree.IsFeat -/
def eann88 : Ann := (.two .nil (.two (.two .nil (.two (.two .nil .nil) .nil)) (.two .nil .nil)))
noncomputable def ecode88 : Code := match Tryz.f88.body with | some c => c | none => .skip
/-! manystrand/tree.Less -/
def eann89 : Ann := (.two .nil (.two (.one (.two .nil (.two (.two .nil .nil) (.two .nil (.two (.two .nil .nil) .nil))))) (.two .nil .nil)))
noncomputable def ecode89 : Code := match Tryz.f89.body with | some c => c | none => .skip
/-! manystrand/graph.head -/
def eann90 : Ann := (.two .nil (.two (.anyD 13 (.take 0 (.take 1 (.take 2 (.take 3 (.take 4 (.take 8 (.take 9 (.one 5 (.take 6 (.take 7 (.one 10 (.take 11 (.take 12 .done)))))))))))))) (.two (.two .nil (.one (.one (.two .nil (.two (.two .nil .nil) (.two (.one (.two .nil (.anyD 11 (.take 0 (.take 1 (.take 2 (.take 5 (.take 6 (.one 3 (.take 4 (.one 7 (.take 8 (.take 9 (.take 10 .done)))))))))))))) .nil)))))) (.two .nil .nil))))
noncomputable def ecode90 : Code := match Tryz.f90.body with | some c => c | none => .skip
/-! manystrand/graph.order -/
def eann91 : Ann := (.two .nil (.two .nil (.two .nil (.two .nil (.two (.two .nil (.one (.one (.two .nil (.two (.two .nil .nil) (.two (.one (.two .nil (.two .nil (.two .nil (.one (.one (.two .nil (.two (.two .nil .nil) (.two (.one (.two .nil .nil)) .nil))))))))) .nil)))))) (.two (.two .nil (.one (.one (.two .nil (.two (.two .nil .nil) (.two (.one (.two .nil (.two .nil (.two .nil .nil)))) .nil)))))) (.two (.two .nil (.one (.one (.two (.two .nil (.two .nil .nil)) (.two (.one (.two .nil (.two .nil (.one (.one (.two .nil (.two (.two .nil .nil) (.two (.one (.two .nil (.two .nil (.two .nil (.two .nil .nil))))) .nil)))))))) .nil))))) (.two .nil .nil))))))))
noncomputable def ecode91 : Code := match Tryz.f91.body with | some c => c | none => .skip
/-! manystrand/graph.classes$1 -/
def eann92 : Ann := (.two .nil (.two .nil (.two (.two .nil (.two (.two .nil .nil) .nil)) (.two .nil .nil))))
noncomputable def ecode92 : Code := match Tryz.f92.body with | some c => c | none => .skip
/-! manystrand/graph.key -/
def eann93 : Ann := (.two .nil (.two .nil (.two (.two .nil (.one (.one (.two .nil (.two (.two .nil .nil) (.two (.one (.two .nil (.anyD 9 (.take 0 (.take 3 (.take 4 (.take 5 (.take 6 (.one 1 (.one 2 (.one 7 (.take 8 .done)))))))))))) .nil)))))) (.two .nil .nil))))
noncomputable def ecode93 : Code := match Tryz.f93.body with | some c => c | none => .skip
/-! strconv.Itoa -/
def eann94 : Ann := (.two .nil (.two .nil .nil))
noncomputable def ecode94 : Code := match Tryz.f94.body with | some c => c | none => .skip
/-! manystrand/manystrandref01.Among -/
def eann95 : Ann := (.two .nil (.two (.two .nil (.one (.one (.two (.two .nil (.two .nil .nil)) (.two (.one (.two .nil (.two (.two .nil .nil) .nil))) .nil))))) (.two (.two .nil (.one (.one (.two (.two .nil (.two .nil .nil)) (.two (.one (.two .nil (.two (.two .nil .nil) .nil))) .nil))))) (.two .nil .nil))))
noncomputable def ecode95 : Code := match Tryz.f95.body with | some c => c | none => .skip
/-! manystrand/manystrandref02.IsAtom -/
def eann96 : Ann := (.two .nil (.two .nil .nil))
noncomputable def ecode96 : Code := match Tryz.f96.body with | some c => c | none => .skip
/-! manystrand/manystrandref02.IsFeat -/
def eann97 : Ann := (.two .nil (.two .nil .nil))
noncomputable def ecode97 : Code := match Tryz.f97.body with | some c => c | none => .skip
/-! manystrand/manystrandref02.Less -/
def eann98 : Ann := (.two .nil (.two (.two .nil (.two (.two .nil .nil) .nil)) (.two (.two .nil (.two (.two .nil .nil) .nil)) (.two .nil .nil))))
noncomputable def ecode98 : Code := match Tryz.f98.body with | some c => c | none => .skip
/-! manystrand/token.IsVar -/
def eann99 : Ann := (.two .nil (.two (.two .nil (.two (.two .nil .nil) .nil)) (.two .nil .nil)))
noncomputable def ecode99 : Code := match Tryz.f99.body with | some c => c | none => .skip
/-! manystrand/token.printed -/
def eann100 : Ann := (.two .nil (.two (.two .nil (.one (.one (.two .nil (.two (.two .nil .nil) (.two (.one (.two .nil (.two .nil (.two (.two .nil .nil) .nil)))) .nil)))))) (.two .nil .nil)))
noncomputable def ecode100 : Code := match Tryz.f100.body with | some c => c | none => .skip
/-! manystrand/token.digit -/
def eann101 : Ann := (.two .nil (.two .nil .nil))
noncomputable def ecode101 : Code := match Tryz.f101.body with | some c => c | none => .skip
/-! manystrand/token.number -/
def eann102 : Ann := (.two .nil (.two .nil (.two (.two .nil (.two .nil .nil)) (.two .nil (.two (.one (.one (.two (.two .nil (.two .nil .nil)) (.one .nil)))) (.two .nil (.two .nil .nil)))))))
noncomputable def ecode102 : Code := match Tryz.f102.body with | some c => c | none => .skip
/-! manystrand/token.isKey -/
def eann103 : Ann := (.two .nil (.two (.two .nil (.one (.two (.two .nil (.two .nil (.two .nil (.two .nil (.two .nil (.two .nil (.two .nil (.two .nil (.two .nil (.two .nil (.two .nil (.two .nil (.two .nil (.two .nil (.two .nil (.two .nil (.two .nil (.two .nil (.two .nil (.two .nil (.two .nil (.two .nil (.two .nil (.two .nil (.two .nil (.two .nil (.two .nil (.two .nil (.two .nil (.two .nil (.two .nil (.two .nil (.two .nil (.two .nil (.two .nil (.two .nil (.two .nil (.two .nil (.two .nil (.two .nil (.two .nil (.two .nil (.two .nil (.two .nil (.two .nil (.two .nil (.two .nil (.two .nil (.two .nil (.two .nil (.two .nil (.two .nil .nil)))))))))))))))))))))))))))))))))))))))))))))))))))) (.two (.two .nil .nil) .nil)))) (.two .nil .nil)))
noncomputable def ecode103 : Code := match Tryz.f103.body with | some c => c | none => .skip
/-! manystrand/token.signAt -/
def eann104 : Ann := (.two .nil (.two (.two .nil (.one (.one (.two (.two .nil (.two .nil .nil)) (.two (.one (.two .nil (.one (.two (.two .nil (.two .nil (.two .nil (.two .nil (.two .nil (.two .nil (.two .nil (.two .nil (.two .nil (.two .nil (.two .nil (.two .nil (.two .nil (.two .nil (.two .nil (.two .nil (.two .nil (.two .nil (.two .nil (.two .nil (.two .nil (.two .nil (.two .nil (.two .nil (.two .nil (.two .nil (.two .nil (.two .nil (.two .nil (.two .nil (.two .nil (.two .nil (.two .nil (.two .nil (.two .nil (.two .nil (.two .nil (.two .nil (.two .nil (.two .nil (.two .nil (.two .nil (.two .nil (.two .nil (.two .nil (.two .nil (.two .nil (.two .nil (.two .nil (.two .nil (.two .nil (.two .nil (.two .nil (.two .nil .nil)))))))))))))))))))))))))))))))))))))))))))))))))))))) (.two (.two .nil .nil) .nil))))) .nil))))) (.two .nil .nil)))
noncomputable def ecode104 : Code := match Tryz.f104.body with | some c => c | none => .skip
/-! manystrand/tree.isAtom -/
def eann105 : Ann := (.two .nil (.two .nil (.two .nil .nil)))
noncomputable def ecode105 : Code := match Tryz.f105.body with | some c => c | none => .skip
/-! strconv.Quote -/
def eann106 : Ann := (.two .nil (.two .nil .nil))
noncomputable def ecode106 : Code := match Tryz.f106.body with | some c => c | none => .skip
/-! strconv.AppendInt -/
def eann107 : Ann := (.two .nil (.two .nil .nil))
noncomputable def ecode107 : Code := match Tryz.f107.body with | some c => c | none => .skip
/-! internal/strconv.Itoa -/
def eann108 : Ann := (.two .nil (.two .nil .nil))
noncomputable def ecode108 : Code := match Tryz.f108.body with | some c => c | none => .skip
/-! manystrand/manystrandref01.Valid -/
def eann109 : Ann := (.two .nil (.two (.two .nil (.one (.two .nil (.two (.two .nil .nil) (.two .nil (.two (.two .nil .nil) (.two .nil (.two (.two .nil .nil) (.two .nil (.two (.two .nil .nil) (.two .nil (.two (.two .nil .nil) (.two .nil (.two (.two .nil .nil) (.two .nil (.two (.two .nil .nil) .nil)))))))))))))))) (.two .nil .nil)))
noncomputable def ecode109 : Code := match Tryz.f109.body with | some c => c | none => .skip
/-! manystrand/token.upper -/
def eann110 : Ann := (.two .nil (.two .nil .nil))
noncomputable def ecode110 : Code := match Tryz.f110.body with | some c => c | none => .skip
/-! manystrand/token.words -/
def eann111 : Ann := (.two .nil (.two (.two .nil (.one (.one (.two .nil (.two (.two .nil .nil) (.two (.one (.two .nil (.two .nil (.two (.two .nil .nil) .nil)))) .nil)))))) (.two .nil .nil)))
noncomputable def ecode111 : Code := match Tryz.f111.body with | some c => c | none => .skip
/-! manystrand/token.Quote -/
def eann112 : Ann := (.two .nil (.two .nil .nil))
noncomputable def ecode112 : Code := match Tryz.f112.body with | some c => c | none => .skip
/-! strconv.quoteWith -/
def eann113 : Ann := (.two .nil (.two .nil .nil))
noncomputable def ecode113 : Code := match Tryz.f113.body with | some c => c | none => .skip
/-! internal/strconv.AppendInt -/
def eann114 : Ann := (.two .nil (.two .nil (.two (.two .nil (.two (.two .nil .nil) .nil)) (.two .nil .nil))))
noncomputable def ecode114 : Code := match Tryz.f114.body with | some c => c | none => .skip
/-! internal/strconv.FormatInt -/
def eann115 : Ann := (.two .nil (.two (.two .nil (.two (.two (.two .nil (.two (.two .nil .nil) .nil)) (.two .nil (.two .nil (.two (.two .nil (.two .nil .nil)) (.two .nil (.two .nil (.two (.two .nil (.two (.two .nil (.two .nil .nil)) .nil)) (.two .nil .nil)))))))) .nil)) (.two .nil (.two .nil .nil))))
noncomputable def ecode115 : Code := match Tryz.f115.body with | some c => c | none => .skip
/-! manystrand/manystrandref01.IsVar -/
def eann116 : Ann := (.two .nil (.two .nil .nil))
noncomputable def ecode116 : Code := match Tryz.f116.body with | some c => c | none => .skip
/-! manystrand/manystrandref01.inside -/
def eann117 : Ann := (.two .nil (.two (.two .nil (.one (.one (.two (.two .nil (.two .nil .nil)) (.two (.one (.two .nil (.two (.two .nil .nil) .nil))) .nil))))) (.two .nil .nil)))
noncomputable def ecode117 : Code := match Tryz.f117.body with | some c => c | none => .skip
/-! manystrand/manystrandref01.IsInt -/
def eann118 : Ann := (.two .nil (.two (.two .nil (.two (.two .nil .nil) .nil)) (.two .nil .nil)))
noncomputable def ecode118 : Code := match Tryz.f118.body with | some c => c | none => .skip
/-! manystrand/manystrandref01.IsKey -/
def eann119 : Ann := (.two .nil (.two .nil .nil))
noncomputable def ecode119 : Code := match Tryz.f119.body with | some c => c | none => .skip
/-! manystrand/manystrandref01.IsSign -/
def eann120 : Ann := (.two .nil (.two .nil .nil))
noncomputable def ecode120 : Code := match Tryz.f120.body with | some c => c | none => .skip
/-! manystrand/token.word -/
def eann121 : Ann := (.two .nil (.two .nil .nil))
noncomputable def ecode121 : Code := match Tryz.f121.body with | some c => c | none => .skip
/-! manystrand/token.Text -/
def eann122 : Ann := (.two .nil (.two (.two .nil (.two (.two .nil .nil) .nil)) (.two (.two .nil (.one (.two .nil (.two (.two (.two .nil (.two (.two .nil .nil) .nil)) (.two .nil .nil)) (.two .nil (.two (.two .nil .nil) (.two .nil (.two (.two (.two .nil (.one (.two .nil (.two (.two .nil .nil) (.two .nil (.two (.two .nil .nil) (.two .nil (.two (.two .nil .nil) .nil)))))))) (.two .nil .nil)) .nil)))))))) (.two .nil .nil))))
noncomputable def ecode122 : Code := match Tryz.f122.body with | some c => c | none => .skip
/-! strconv.appendQuotedWith -/
def eann123 : Ann := (.two .nil (.two (.two .nil (.two (.two .nil (.two .nil .nil)) .nil)) (.two .nil (.two (.two .nil (.one (.one (.two (.two .nil (.two .nil .nil)) (.two (.one (.two .nil (.two (.two .nil (.two (.two .nil (.two .nil (.two .nil .nil))) .nil)) .nil))) .nil))))) (.two .nil (.two .nil .nil))))))
noncomputable def ecode123 : Code := match Tryz.f123.body with | some c => c | none => .skip
/-! internal/strconv.AppendUint -/
def eann124 : Ann := (.two .nil (.two (.two .nil (.two (.two (.two .nil (.two (.two .nil .nil) .nil)) (.two .nil (.two .nil (.two .nil (.two .nil .nil))))) .nil)) (.two .nil (.two .nil .nil))))
noncomputable def ecode124 : Code := match Tryz.f124.body with | some c => c | none => .skip
/-! internal/strconv.small -/
def eann125 : Ann := (.two .nil (.two (.two .nil (.two (.two .nil .nil) .nil)) (.two .nil .nil)))
noncomputable def ecode125 : Code := match Tryz.f125.body with | some c => c | none => .skip
/-! internal/strconv.numDigits -/
def eann126 : Ann := (.two .nil (.two .nil (.two .nil .nil)))
noncomputable def ecode126 : Code := match Tryz.f126.body with | some c => c | none => .skip
/-! internal/strconv.formatBase10 -/
def eann127 : Ann := (.two .nil (.two (.one (.one (.two (.two .nil (.two .nil .nil)) (.one (.two .nil (.two .nil (.two .nil (.two .nil (.two .nil (.two (.anyD 15 (.take 0 (.take 1 (.take 2 (.take 3 (.take 4 (.take 5 (.take 6 (.take 7 (.take 8 (.take 9 (.take 10 (.take 11 (.one 12 (.take 13 (.one 14 .done)))))))))))))))) (.two (.anyD 15 (.take 0 (.take 1 (.take 2 (.take 3 (.take 4 (.take 5 (.take 6 (.take 7 (.take 8 (.take 9 (.take 10 (.take 11 (.one 12 (.take 13 (.one 14 .done)))))))))))))))) (.two (.anyD 15 (.take 0 (.take 1 (.take 2 (.take 3 (.take 4 (.take 5 (.take 6 (.take 7 (.take 8 (.take 9 (.take 10 (.take 11 (.one 12 (.take 13 (.one 14 .done)))))))))))))))) (.two (.anyD 15 (.take 0 (.take 1 (.take 2 (.take 3 (.take 4 (.take 5 (.take 6 (.take 7 (.take 8 (.take 9 (.take 10 (.take 11 (.one 12 (.take 13 (.one 14 .done)))))))))))))))) .nil))))))))))))) (.two .nil (.two (.two .nil (.two (.two .nil (.two .nil (.two .nil (.two (.anyD 15 (.take 0 (.take 1 (.take 2 (.take 3 (.take 4 (.take 5 (.take 6 (.take 7 (.take 8 (.take 9 (.take 10 (.take 11 (.one 12 (.take 13 (.one 14 .done)))))))))))))))) (.two (.anyD 15 (.take 0 (.take 1 (.take 2 (.take 3 (.take 4 (.take 5 (.take 6 (.take 7 (.take 8 (.take 9 (.take 10 (.take 11 (.one 12 (.take 13 (.one 14 .done)))))))))))))))) .nil))))) .nil)) (.two (.two .nil (.two (.two .nil (.two .nil (.two (.anyD 15 (.take 0 (.take 1 (.take 2 (.take 3 (.take 4 (.take 5 (.take 6 (.take 7 (.take 8 (.take 9 (.take 10 (.take 11 (.one 12 (.take 13 (.one 14 .done)))))))))))))))) .nil))) .nil)) (.two .nil (.two .nil .nil)))))))
noncomputable def ecode127 : Code := match Tryz.f127.body with | some c => c | none => .skip
/-! internal/strconv.formatBits -/
def eann128 : Ann := (.two .nil (.two (.two .nil (.two .nil .nil)) (.two .nil (.two .nil (.two (.two .nil (.two .nil .nil)) (.two (.two .nil (.two (.two .nil (.two .nil (.two .nil (.two (.one (.one (.two (.two .nil (.two .nil .nil)) (.one (.two .nil (.two .nil .nil)))))) (.two .nil .nil))))) (.two .nil (.two (.one (.one (.two (.two .nil (.two .nil .nil)) (.one (.two .nil (.two .nil (.two .nil .nil))))))) (.two .nil .nil))))) (.two (.two .nil (.two (.two .nil .nil) .nil)) (.two (.two .nil (.two (.two .nil .nil) .nil)) (.two .nil .nil)))))))))
noncomputable def ecode128 : Code := match Tryz.f128.body with | some c => c | none => .skip
/-! manystrand/manystrandref01.word -/
def eann129 : Ann := (.two .nil (.two (.two .nil (.one (.one (.two (.two .nil (.two .nil .nil)) (.two (.one (.two .nil (.two (.two .nil .nil) .nil))) .nil))))) (.two .nil .nil)))
noncomputable def ecode129 : Code := match Tryz.f129.body with | some c => c | none => .skip
/-! manystrand/manystrandref01.great -/
def eann130 : Ann := (.two .nil (.two .nil .nil))
noncomputable def ecode130 : Code := match Tryz.f130.body with | some c => c | none => .skip
/-! manystrand/manystrandref01.IsNumber -/
def eann131 : Ann := (.two .nil (.two (.two .nil (.one (.one (.two (.two .nil (.two .nil .nil)) (.two (.one (.two .nil (.two (.two .nil .nil) .nil))) .nil))))) (.two .nil .nil)))
noncomputable def ecode131 : Code := match Tryz.f131.body with | some c => c | none => .skip
/-! manystrand/token.lower -/
def eann132 : Ann := (.two .nil (.two .nil .nil))
noncomputable def ecode132 : Code := match Tryz.f132.body with | some c => c | none => .skip
/-! manystrand/token.IsPlain -/
def eann133 : Ann := (.two .nil (.two .nil .nil))
noncomputable def ecode133 : Code := match Tryz.f133.body with | some c => c | none => .skip
/-! manystrand/token.inQuotes -/
def eann134 : Ann := (.two .nil (.two .nil (.two (.two .nil (.one (.one (.two .nil (.two (.two .nil .nil) (.two (.one (.two .nil (.two .nil (.two .nil (.one (.two (.two .nil (.two .nil .nil)) (.two .nil (.two .nil (.two .nil .nil))))))))) .nil)))))) (.two .nil .nil))))
noncomputable def ecode134 : Code := match Tryz.f134.body with | some c => c | none => .skip
/-! unicode/utf8.DecodeRuneInString -/
def eann135 : Ann := (.two .nil (.two (.two .nil (.two (.two .nil .nil) .nil)) .nil))
noncomputable def ecode135 : Code := match Tryz.f135.body with | some c => c | none => .skip
/-! strconv.appendEscapedRune -/
def eann136 : Ann := (.two .nil (.two (.two .nil (.two (.two .nil (.two .nil (.two .nil .nil))) .nil)) (.two (.two .nil (.two (.two .nil (.two (.two .nil (.two .nil .nil)) .nil)) (.two .nil (.two (.two .nil .nil) .nil)))) (.two (.two .nil (.one (.two .nil (.two .nil (.two .nil (.two .nil (.two .nil (.two .nil (.two .nil (.two .nil (.two .nil (.two .nil (.two .nil (.two .nil (.two .nil (.two .nil (.one (.two (.one (.two (.one (.two (.one (.two (.one (.two (.two (.two .nil (.two .nil .nil)) (.two (.two .nil (.two .nil .nil)) (.two .nil (.two .nil .nil)))) .nil)) (.two (.two .nil (.two .nil .nil)) .nil))) .nil)) (.two (.two .nil (.two .nil (.one (.one (.two (.two .nil (.two .nil .nil)) (.two (.one .nil) .nil)))))) .nil))) (.two (.two .nil (.two .nil (.one (.one (.two (.two .nil (.two .nil .nil)) (.two (.one .nil) .nil)))))) .nil))))))))))))))))))) (.two .nil .nil)))))
noncomputable def ecode136 : Code := match Tryz.f136.body with | some c => c | none => .skip
/-! internal/strconv.log10Pow2 -/
def eann137 : Ann := (.two .nil (.two .nil .nil))
noncomputable def ecode137 : Code := match Tryz.f137.body with | some c => c | none => .skip
/-! math/bits.Len64 -/
def eann138 : Ann := (.two .nil (.two (.two .nil (.two (.two .nil .nil) .nil)) (.two (.two .nil (.two (.two .nil .nil) .nil)) (.two (.two .nil (.two (.two .nil .nil) .nil)) (.two .nil .nil)))))
noncomputable def ecode138 : Code := match Tryz.f138.body with | some c => c | none => .skip
/-! internal/strconv.bool2[int] -/
def eann139 : Ann := (.two .nil (.two (.two .nil (.two (.two .nil .nil) .nil)) (.two .nil .nil)))
noncomputable def ecode139 : Code := match Tryz.f139.body with | some c => c | none => .skip
/-! internal/strconv.isPowerOfTwo -/
def eann140 : Ann := (.two .nil (.two .nil .nil))
noncomputable def ecode140 : Code := match Tryz.f140.body with | some c => c | none => .skip
/-! math/bits.TrailingZeros -/
def eann141 : Ann := (.two .nil (.two (.two (.two .nil .nil) .nil) (.two .nil .nil)))
noncomputable def ecode141 : Code := match Tryz.f141.body with | some c => c | none => .skip
/-! manystrand/manystrandref01.inner -/
def eann142 : Ann := (.two .nil (.two .nil .nil))
noncomputable def ecode142 : Code := match Tryz.f142.body with | some c => c | none => .skip
/-! manystrand/manystrandref01.digit -/
def eann143 : Ann := (.two .nil (.two .nil .nil))
noncomputable def ecode143 : Code := match Tryz.f143.body with | some c => c | none => .skip
/-! unicode/utf8.decodeRuneInStringSlow -/
def eann144 : Ann := (.two .nil (.two .nil (.two (.two .nil (.two (.two .nil .nil) .nil)) (.two .nil (.two .nil (.two (.two .nil (.two (.two .nil (.two .nil .nil)) .nil)) (.two .nil (.two .nil (.two (.two .nil (.two (.two .nil .nil) .nil)) (.two .nil (.two (.two .nil (.two (.two .nil .nil) .nil)) (.two (.two .nil (.two (.two .nil .nil) .nil)) (.two .nil (.two (.two .nil (.two (.two .nil .nil) .nil)) (.two (.two .nil (.two (.two .nil .nil) .nil)) (.two .nil (.two (.two .nil (.two (.two .nil .nil) .nil)) (.two .nil .nil))))))))))))))))))
noncomputable def ecode144 : Code := match Tryz.f144.body with | some c => c | none => .skip
/-! strconv.IsPrint -/
def eann145 : Ann := (.two .nil (.two (.two .nil (.two (.two (.two .nil (.two (.two .nil .nil) .nil)) (.two (.two .nil (.two (.two .nil .nil) .nil)) (.two .nil .nil))) .nil)) (.two (.two .nil (.two (.two (.anyD 7 (.take 0 (.take 1 (.take 2 (.take 3 (.take 4 (.take 5 (.take 6 .done)))))))) (.two .nil (.two (.two .nil (.two (.two .nil .nil) .nil)) (.two .nil (.two .nil .nil))))) .nil)) (.two (.anyD 7 (.take 0 (.take 1 (.take 2 (.take 3 (.take 4 (.take 5 (.take 6 .done)))))))) (.two .nil (.two (.two .nil (.two (.two .nil .nil) .nil)) (.two (.two .nil (.two (.two .nil .nil) .nil)) (.two .nil (.two .nil (.two .nil .nil))))))))))
noncomputable def ecode145 : Code := match Tryz.f145.body with | some c => c | none => .skip
/-! strconv.isInGraphicList -/
def eann146 : Ann := (.two .nil (.two (.two .nil (.two (.two .nil .nil) .nil)) (.two .nil (.two .nil .nil))))
noncomputable def ecode146 : Code := match Tryz.f146.body with | some c => c | none => .skip
/-! unicode/utf8.AppendRune -/
def eann147 : Ann := (.two .nil (.two (.two .nil (.two (.two .nil .nil) .nil)) (.two .nil .nil)))
noncomputable def ecode147 : Code := match Tryz.f147.body with | some c => c | none => .skip
/-! unicode/utf8.ValidRune -/
def eann148 : Ann := (.two .nil (.two (.one (.two .nil (.two (.two .nil .nil) (.two .nil (.two (.two .nil .nil) .nil))))) (.two .nil .nil)))
noncomputable def ecode148 : Code := match Tryz.f148.body with | some c => c | none => .skip
/-! math/bits.TrailingZeros32 -/
def eann149 : Ann := (.two .nil (.two (.two .nil (.two (.two .nil .nil) .nil)) (.two .nil .nil)))
noncomputable def ecode149 : Code := match Tryz.f149.body with | some c => c | none => .skip
/-! math/bits.TrailingZeros64 -/
def eann150 : Ann := (.two .nil (.two (.two .nil (.two (.two .nil .nil) .nil)) (.two .nil .nil)))
noncomputable def ecode150 : Code := match Tryz.f150.body with | some c => c | none => .skip
/-! manystrand/manystrandref01.small -/
def eann151 : Ann := (.two .nil (.two .nil .nil))
noncomputable def ecode151 : Code := match Tryz.f151.body with | some c => c | none => .skip
/-! strconv.bsearch[[]uint16,uint16] -/
def eann152 : Ann := (.two .nil (.two .nil (.two .nil (.two (.one (.one (.two (.two .nil (.two .nil .nil)) (.one (.two .nil (.two .nil (.two .nil .nil))))))) (.two (.anyD 14 (.take 0 (.take 1 (.take 2 (.take 3 (.take 4 (.take 5 (.take 6 (.take 7 (.take 8 (.take 9 (.take 10 (.take 11 (.take 12 (.take 13 .done))))))))))))))) .nil)))))
noncomputable def ecode152 : Code := match Tryz.f152.body with | some c => c | none => .skip
/-! strconv.bsearch[[]uint32,uint32] -/
def eann153 : Ann := (.two .nil (.two .nil (.two .nil (.two (.one (.one (.two (.two .nil (.two .nil .nil)) (.one (.two .nil (.two .nil (.two .nil .nil))))))) (.two (.anyD 14 (.take 0 (.take 1 (.take 2 (.take 3 (.take 4 (.take 5 (.take 6 (.take 7 (.take 8 (.take 9 (.take 10 (.take 11 (.take 12 (.take 13 .done))))))))))))))) .nil)))))
noncomputable def ecode153 : Code := match Tryz.f153.body with | some c => c | none => .skip
/-! unicode/utf8.appendRuneNonASCII -/
def eann154 : Ann := (.two .nil (.two .nil (.one (.two .nil (.two (.two .nil .nil) (.two (.two .nil (.two .nil .nil)) (.two (.two .nil .nil) (.two .nil (.two (.two .nil .nil) (.two .nil .nil))))))))))
noncomputable def ecode154 : Code := match Tryz.f154.body with | some c => c | none => .skip
noncomputable def efns : List (Nat × FnE) := [
  (3, ⟨ecode3, eann3, 129, Tryz.f3.results.toList⟩),
  (4, ⟨ecode4, eann4, 87, Tryz.f4.results.toList⟩),
  (5, ⟨ecode5, eann5, 39, Tryz.f5.results.toList⟩),
  (6, ⟨ecode6, eann6, 120, Tryz.f6.results.toList⟩),
  (7, ⟨ecode7, eann7, 5, Tryz.f7.results.toList⟩),
  (8, ⟨ecode8, eann8, 36, Tryz.f8.results.toList⟩),
  (9, ⟨ecode9, eann9, 55, Tryz.f9.results.toList⟩),
  (10, ⟨ecode10, eann10, 100, Tryz.f10.results.toList⟩),
  (11, ⟨ecode11, eann11, 75, Tryz.f11.results.toList⟩),
  (12, ⟨ecode12, eann12, 55, Tryz.f12.results.toList⟩),
  (13, ⟨ecode13, eann13, 84, Tryz.f13.results.toList⟩),
  (14, ⟨ecode14, eann14, 30, Tryz.f14.results.toList⟩),
  (15, ⟨ecode15, eann15, 22, Tryz.f15.results.toList⟩),
  (16, ⟨ecode16, eann16, 19, Tryz.f16.results.toList⟩),
  (17, ⟨ecode17, eann17, 143, Tryz.f17.results.toList⟩),
  (18, ⟨ecode18, eann18, 44, Tryz.f18.results.toList⟩),
  (19, ⟨ecode19, eann19, 27, Tryz.f19.results.toList⟩),
  (20, ⟨ecode20, eann20, 41, Tryz.f20.results.toList⟩),
  (21, ⟨ecode21, eann21, 162, Tryz.f21.results.toList⟩),
  (22, ⟨ecode22, eann22, 64, Tryz.f22.results.toList⟩),
  (23, ⟨ecode23, eann23, 13, Tryz.f23.results.toList⟩),
  (24, ⟨ecode24, eann24, 16, Tryz.f24.results.toList⟩),
  (25, ⟨ecode25, eann25, 39, Tryz.f25.results.toList⟩),
  (26, ⟨ecode26, eann26, 35, Tryz.f26.results.toList⟩),
  (27, ⟨ecode27, eann27, 48, Tryz.f27.results.toList⟩),
  (28, ⟨ecode28, eann28, 32, Tryz.f28.results.toList⟩),
  (29, ⟨ecode29, eann29, 18, Tryz.f29.results.toList⟩),
  (30, ⟨ecode30, eann30, 144, Tryz.f30.results.toList⟩),
  (31, ⟨ecode31, eann31, 27, Tryz.f31.results.toList⟩),
  (32, ⟨ecode32, eann32, 7, Tryz.f32.results.toList⟩),
  (33, ⟨ecode33, eann33, 14, Tryz.f33.results.toList⟩),
  (34, ⟨ecode34, eann34, 9, Tryz.f34.results.toList⟩),
  (35, ⟨ecode35, eann35, 21, Tryz.f35.results.toList⟩),
  (36, ⟨ecode36, eann36, 46, Tryz.f36.results.toList⟩),
  (37, ⟨ecode37, eann37, 18, Tryz.f37.results.toList⟩),
  (38, ⟨ecode38, eann38, 119, Tryz.f38.results.toList⟩),
  (39, ⟨ecode39, eann39, 28, Tryz.f39.results.toList⟩),
  (40, ⟨ecode40, eann40, 16, Tryz.f40.results.toList⟩),
  (41, ⟨ecode41, eann41, 182, Tryz.f41.results.toList⟩),
  (42, ⟨ecode42, eann42, 8, Tryz.f42.results.toList⟩),
  (43, ⟨ecode43, eann43, 8, Tryz.f43.results.toList⟩),
  (44, ⟨ecode44, eann44, 8, Tryz.f44.results.toList⟩),
  (45, ⟨ecode45, eann45, 8, Tryz.f45.results.toList⟩),
  (46, ⟨ecode46, eann46, 9, Tryz.f46.results.toList⟩),
  (47, ⟨ecode47, eann47, 8, Tryz.f47.results.toList⟩),
  (48, ⟨ecode48, eann48, 9, Tryz.f48.results.toList⟩),
  (49, ⟨ecode49, eann49, 8, Tryz.f49.results.toList⟩),
  (50, ⟨ecode50, eann50, 9, Tryz.f50.results.toList⟩),
  (51, ⟨ecode51, eann51, 47, Tryz.f51.results.toList⟩),
  (52, ⟨ecode52, eann52, 35, Tryz.f52.results.toList⟩),
  (53, ⟨ecode53, eann53, 13, Tryz.f53.results.toList⟩),
  (54, ⟨ecode54, eann54, 9, Tryz.f54.results.toList⟩),
  (55, ⟨ecode55, eann55, 8, Tryz.f55.results.toList⟩),
  (56, ⟨ecode56, eann56, 114, Tryz.f56.results.toList⟩),
  (57, ⟨ecode57, eann57, 19, Tryz.f57.results.toList⟩),
  (58, ⟨ecode58, eann58, 33, Tryz.f58.results.toList⟩),
  (59, ⟨ecode59, eann59, 112, Tryz.f59.results.toList⟩),
  (60, ⟨ecode60, eann60, 9, Tryz.f60.results.toList⟩),
  (61, ⟨ecode61, eann61, 42, Tryz.f61.results.toList⟩),
  (62, ⟨ecode62, eann62, 137, Tryz.f62.results.toList⟩),
  (63, ⟨ecode63, eann63, 37, Tryz.f63.results.toList⟩),
  (64, ⟨ecode64, eann64, 42, Tryz.f64.results.toList⟩),
  (65, ⟨ecode65, eann65, 9, Tryz.f65.results.toList⟩),
  (67, ⟨ecode67, eann67, 5, Tryz.f67.results.toList⟩),
  (68, ⟨ecode68, eann68, 60, Tryz.f68.results.toList⟩),
  (69, ⟨ecode69, eann69, 111, Tryz.f69.results.toList⟩),
  (70, ⟨ecode70, eann70, 34, Tryz.f70.results.toList⟩),
  (71, ⟨ecode71, eann71, 17, Tryz.f71.results.toList⟩),
  (72, ⟨ecode72, eann72, 19, Tryz.f72.results.toList⟩),
  (73, ⟨ecode73, eann73, 25, Tryz.f73.results.toList⟩),
  (74, ⟨ecode74, eann74, 8, Tryz.f74.results.toList⟩),
  (75, ⟨ecode75, eann75, 87, Tryz.f75.results.toList⟩),
  (76, ⟨ecode76, eann76, 19, Tryz.f76.results.toList⟩),
  (77, ⟨ecode77, eann77, 11, Tryz.f77.results.toList⟩),
  (78, ⟨ecode78, eann78, 41, Tryz.f78.results.toList⟩),
  (79, ⟨ecode79, eann79, 22, Tryz.f79.results.toList⟩),
  (80, ⟨ecode80, eann80, 56, Tryz.f80.results.toList⟩),
  (81, ⟨ecode81, eann81, 139, Tryz.f81.results.toList⟩),
  (82, ⟨ecode82, eann82, 166, Tryz.f82.results.toList⟩),
  (83, ⟨ecode83, eann83, 73, Tryz.f83.results.toList⟩),
  (84, ⟨ecode84, eann84, 159, Tryz.f84.results.toList⟩),
  (85, ⟨ecode85, eann85, 23, Tryz.f85.results.toList⟩),
  (86, ⟨ecode86, eann86, 15, Tryz.f86.results.toList⟩),
  (87, ⟨ecode87, eann87, 85, Tryz.f87.results.toList⟩),
  (88, ⟨ecode88, eann88, 22, Tryz.f88.results.toList⟩),
  (89, ⟨ecode89, eann89, 36, Tryz.f89.results.toList⟩),
  (90, ⟨ecode90, eann90, 37, Tryz.f90.results.toList⟩),
  (91, ⟨ecode91, eann91, 112, Tryz.f91.results.toList⟩),
  (92, ⟨ecode92, eann92, 20, Tryz.f92.results.toList⟩),
  (93, ⟨ecode93, eann93, 29, Tryz.f93.results.toList⟩),
  (94, ⟨ecode94, eann94, 5, Tryz.f94.results.toList⟩),
  (95, ⟨ecode95, eann95, 43, Tryz.f95.results.toList⟩),
  (96, ⟨ecode96, eann96, 6, Tryz.f96.results.toList⟩),
  (97, ⟨ecode97, eann97, 26, Tryz.f97.results.toList⟩),
  (98, ⟨ecode98, eann98, 34, Tryz.f98.results.toList⟩),
  (99, ⟨ecode99, eann99, 18, Tryz.f99.results.toList⟩),
  (100, ⟨ecode100, eann100, 32, Tryz.f100.results.toList⟩),
  (101, ⟨ecode101, eann101, 9, Tryz.f101.results.toList⟩),
  (102, ⟨ecode102, eann102, 54, Tryz.f102.results.toList⟩),
  (103, ⟨ecode103, eann103, 32, Tryz.f103.results.toList⟩),
  (104, ⟨ecode104, eann104, 46, Tryz.f104.results.toList⟩),
  (105, ⟨ecode105, eann105, 12, Tryz.f105.results.toList⟩),
  (106, ⟨ecode106, eann106, 5, Tryz.f106.results.toList⟩),
  (107, ⟨ecode107, eann107, 11, Tryz.f107.results.toList⟩),
  (108, ⟨ecode108, eann108, 5, Tryz.f108.results.toList⟩),
  (109, ⟨ecode109, eann109, 46, Tryz.f109.results.toList⟩),
  (110, ⟨ecode110, eann110, 9, Tryz.f110.results.toList⟩),
  (111, ⟨ecode111, eann111, 15, Tryz.f111.results.toList⟩),
  (112, ⟨ecode112, eann112, 9, Tryz.f112.results.toList⟩),
  (113, ⟨ecode113, eann113, 20, Tryz.f113.results.toList⟩),
  (114, ⟨ecode114, eann114, 21, Tryz.f114.results.toList⟩),
  (115, ⟨ecode115, eann115, 54, Tryz.f115.results.toList⟩),
  (116, ⟨ecode116, eann116, 10, Tryz.f116.results.toList⟩),
  (117, ⟨ecode117, eann117, 32, Tryz.f117.results.toList⟩),
  (118, ⟨ecode118, eann118, 19, Tryz.f118.results.toList⟩),
  (119, ⟨ecode119, eann119, 5, Tryz.f119.results.toList⟩),
  (120, ⟨ecode120, eann120, 5, Tryz.f120.results.toList⟩),
  (121, ⟨ecode121, eann121, 17, Tryz.f121.results.toList⟩),
  (122, ⟨ecode122, eann122, 39, Tryz.f122.results.toList⟩),
  (123, ⟨ecode123, eann123, 84, Tryz.f123.results.toList⟩),
  (124, ⟨ecode124, eann124, 36, Tryz.f124.results.toList⟩),
  (125, ⟨ecode125, eann125, 15, Tryz.f125.results.toList⟩),
  (126, ⟨ecode126, eann126, 15, Tryz.f126.results.toList⟩),
  (127, ⟨ecode127, eann127, 167, Tryz.f127.results.toList⟩),
  (128, ⟨ecode128, eann128, 102, Tryz.f128.results.toList⟩),
  (129, ⟨ecode129, eann129, 22, Tryz.f129.results.toList⟩),
  (130, ⟨ecode130, eann130, 9, Tryz.f130.results.toList⟩),
  (131, ⟨ecode131, eann131, 32, Tryz.f131.results.toList⟩),
  (132, ⟨ecode132, eann132, 9, Tryz.f132.results.toList⟩),
  (133, ⟨ecode133, eann133, 24, Tryz.f133.results.toList⟩),
  (134, ⟨ecode134, eann134, 42, Tryz.f134.results.toList⟩),
  (135, ⟨ecode135, eann135, 19, Tryz.f135.results.toList⟩),
  (136, ⟨ecode136, eann136, 145, Tryz.f136.results.toList⟩),
  (137, ⟨ecode137, eann137, 6, Tryz.f137.results.toList⟩),
  (138, ⟨ecode138, eann138, 25, Tryz.f138.results.toList⟩),
  (139, ⟨ecode139, eann139, 4, Tryz.f139.results.toList⟩),
  (140, ⟨ecode140, eann140, 8, Tryz.f140.results.toList⟩),
  (141, ⟨ecode141, eann141, 8, Tryz.f141.results.toList⟩),
  (142, ⟨ecode142, eann142, 17, Tryz.f142.results.toList⟩),
  (143, ⟨ecode143, eann143, 9, Tryz.f143.results.toList⟩),
  (144, ⟨ecode144, eann144, 117, Tryz.f144.results.toList⟩),
  (145, ⟨ecode145, eann145, 124, Tryz.f145.results.toList⟩),
  (146, ⟨ecode146, eann146, 15, Tryz.f146.results.toList⟩),
  (147, ⟨ecode147, eann147, 16, Tryz.f147.results.toList⟩),
  (148, ⟨ecode148, eann148, 17, Tryz.f148.results.toList⟩),
  (149, ⟨ecode149, eann149, 14, Tryz.f149.results.toList⟩),
  (150, ⟨ecode150, eann150, 14, Tryz.f150.results.toList⟩),
  (151, ⟨ecode151, eann151, 9, Tryz.f151.results.toList⟩),
  (152, ⟨ecode152, eann152, 43, Tryz.f152.results.toList⟩),
  (153, ⟨ecode153, eann153, 43, Tryz.f153.results.toList⟩),
  (154, ⟨ecode154, eann154, 78, Tryz.f154.results.toList⟩)]
theorem efnsAll : FnAll Tryz.prog efns := ⟨⟨_, Tryz.func3, (by kernel_rfl : Tryz.f3.body = some ecode3), (by kernel_rfl), rfl, (by kernel_rfl), Tryz.call3⟩,
  ⟨_, Tryz.func4, (by kernel_rfl : Tryz.f4.body = some ecode4), (by kernel_rfl), rfl, (by kernel_rfl), Tryz.call4⟩,
  ⟨_, Tryz.func5, (by kernel_rfl : Tryz.f5.body = some ecode5), (by kernel_rfl), rfl, (by kernel_rfl), Tryz.call5⟩,
  ⟨_, Tryz.func6, (by kernel_rfl : Tryz.f6.body = some ecode6), (by kernel_rfl), rfl, (by kernel_rfl), Tryz.call6⟩,
  ⟨_, Tryz.func7, (by kernel_rfl : Tryz.f7.body = some ecode7), (by kernel_rfl), rfl, (by kernel_rfl), Tryz.call7⟩,
  ⟨_, Tryz.func8, (by kernel_rfl : Tryz.f8.body = some ecode8), (by kernel_rfl), rfl, (by kernel_rfl), Tryz.call8⟩,
  ⟨_, Tryz.func9, (by kernel_rfl : Tryz.f9.body = some ecode9), (by kernel_rfl), rfl, (by kernel_rfl), Tryz.call9⟩,
  ⟨_, Tryz.func10, (by kernel_rfl : Tryz.f10.body = some ecode10), (by kernel_rfl), rfl, (by kernel_rfl), Tryz.call10⟩,
  ⟨_, Tryz.func11, (by kernel_rfl : Tryz.f11.body = some ecode11), (by kernel_rfl), rfl, (by kernel_rfl), Tryz.call11⟩,
  ⟨_, Tryz.func12, (by kernel_rfl : Tryz.f12.body = some ecode12), (by kernel_rfl), rfl, (by kernel_rfl), Tryz.call12⟩,
  ⟨_, Tryz.func13, (by kernel_rfl : Tryz.f13.body = some ecode13), (by kernel_rfl), rfl, (by kernel_rfl), Tryz.call13⟩,
  ⟨_, Tryz.func14, (by kernel_rfl : Tryz.f14.body = some ecode14), (by kernel_rfl), rfl, (by kernel_rfl), Tryz.call14⟩,
  ⟨_, Tryz.func15, (by kernel_rfl : Tryz.f15.body = some ecode15), (by kernel_rfl), rfl, (by kernel_rfl), Tryz.call15⟩,
  ⟨_, Tryz.func16, (by kernel_rfl : Tryz.f16.body = some ecode16), (by kernel_rfl), rfl, (by kernel_rfl), Tryz.call16⟩,
  ⟨_, Tryz.func17, (by kernel_rfl : Tryz.f17.body = some ecode17), (by kernel_rfl), rfl, (by kernel_rfl), Tryz.call17⟩,
  ⟨_, Tryz.func18, (by kernel_rfl : Tryz.f18.body = some ecode18), (by kernel_rfl), rfl, (by kernel_rfl), Tryz.call18⟩,
  ⟨_, Tryz.func19, (by kernel_rfl : Tryz.f19.body = some ecode19), (by kernel_rfl), rfl, (by kernel_rfl), Tryz.call19⟩,
  ⟨_, Tryz.func20, (by kernel_rfl : Tryz.f20.body = some ecode20), (by kernel_rfl), rfl, (by kernel_rfl), Tryz.call20⟩,
  ⟨_, Tryz.func21, (by kernel_rfl : Tryz.f21.body = some ecode21), (by kernel_rfl), rfl, (by kernel_rfl), Tryz.call21⟩,
  ⟨_, Tryz.func22, (by kernel_rfl : Tryz.f22.body = some ecode22), (by kernel_rfl), rfl, (by kernel_rfl), Tryz.call22⟩,
  ⟨_, Tryz.func23, (by kernel_rfl : Tryz.f23.body = some ecode23), (by kernel_rfl), rfl, (by kernel_rfl), Tryz.call23⟩,
  ⟨_, Tryz.func24, (by kernel_rfl : Tryz.f24.body = some ecode24), (by kernel_rfl), rfl, (by kernel_rfl), Tryz.call24⟩,
  ⟨_, Tryz.func25, (by kernel_rfl : Tryz.f25.body = some ecode25), (by kernel_rfl), rfl, (by kernel_rfl), Tryz.call25⟩,
  ⟨_, Tryz.func26, (by kernel_rfl : Tryz.f26.body = some ecode26), (by kernel_rfl), rfl, (by kernel_rfl), Tryz.call26⟩,
  ⟨_, Tryz.func27, (by kernel_rfl : Tryz.f27.body = some ecode27), (by kernel_rfl), rfl, (by kernel_rfl), Tryz.call27⟩,
  ⟨_, Tryz.func28, (by kernel_rfl : Tryz.f28.body = some ecode28), (by kernel_rfl), rfl, (by kernel_rfl), Tryz.call28⟩,
  ⟨_, Tryz.func29, (by kernel_rfl : Tryz.f29.body = some ecode29), (by kernel_rfl), rfl, (by kernel_rfl), Tryz.call29⟩,
  ⟨_, Tryz.func30, (by kernel_rfl : Tryz.f30.body = some ecode30), (by kernel_rfl), rfl, (by kernel_rfl), Tryz.call30⟩,
  ⟨_, Tryz.func31, (by kernel_rfl : Tryz.f31.body = some ecode31), (by kernel_rfl), rfl, (by kernel_rfl), Tryz.call31⟩,
  ⟨_, Tryz.func32, (by kernel_rfl : Tryz.f32.body = some ecode32), (by kernel_rfl), rfl, (by kernel_rfl), Tryz.call32⟩,
  ⟨_, Tryz.func33, (by kernel_rfl : Tryz.f33.body = some ecode33), (by kernel_rfl), rfl, (by kernel_rfl), Tryz.call33⟩,
  ⟨_, Tryz.func34, (by kernel_rfl : Tryz.f34.body = some ecode34), (by kernel_rfl), rfl, (by kernel_rfl), Tryz.call34⟩,
  ⟨_, Tryz.func35, (by kernel_rfl : Tryz.f35.body = some ecode35), (by kernel_rfl), rfl, (by kernel_rfl), Tryz.call35⟩,
  ⟨_, Tryz.func36, (by kernel_rfl : Tryz.f36.body = some ecode36), (by kernel_rfl), rfl, (by kernel_rfl), Tryz.call36⟩,
  ⟨_, Tryz.func37, (by kernel_rfl : Tryz.f37.body = some ecode37), (by kernel_rfl), rfl, (by kernel_rfl), Tryz.call37⟩,
  ⟨_, Tryz.func38, (by kernel_rfl : Tryz.f38.body = some ecode38), (by kernel_rfl), rfl, (by kernel_rfl), Tryz.call38⟩,
  ⟨_, Tryz.func39, (by kernel_rfl : Tryz.f39.body = some ecode39), (by kernel_rfl), rfl, (by kernel_rfl), Tryz.call39⟩,
  ⟨_, Tryz.func40, (by kernel_rfl : Tryz.f40.body = some ecode40), (by kernel_rfl), rfl, (by kernel_rfl), Tryz.call40⟩,
  ⟨_, Tryz.func41, (by kernel_rfl : Tryz.f41.body = some ecode41), (by kernel_rfl), rfl, (by kernel_rfl), Tryz.call41⟩,
  ⟨_, Tryz.func42, (by kernel_rfl : Tryz.f42.body = some ecode42), (by kernel_rfl), rfl, (by kernel_rfl), Tryz.call42⟩,
  ⟨_, Tryz.func43, (by kernel_rfl : Tryz.f43.body = some ecode43), (by kernel_rfl), rfl, (by kernel_rfl), Tryz.call43⟩,
  ⟨_, Tryz.func44, (by kernel_rfl : Tryz.f44.body = some ecode44), (by kernel_rfl), rfl, (by kernel_rfl), Tryz.call44⟩,
  ⟨_, Tryz.func45, (by kernel_rfl : Tryz.f45.body = some ecode45), (by kernel_rfl), rfl, (by kernel_rfl), Tryz.call45⟩,
  ⟨_, Tryz.func46, (by kernel_rfl : Tryz.f46.body = some ecode46), (by kernel_rfl), rfl, (by kernel_rfl), Tryz.call46⟩,
  ⟨_, Tryz.func47, (by kernel_rfl : Tryz.f47.body = some ecode47), (by kernel_rfl), rfl, (by kernel_rfl), Tryz.call47⟩,
  ⟨_, Tryz.func48, (by kernel_rfl : Tryz.f48.body = some ecode48), (by kernel_rfl), rfl, (by kernel_rfl), Tryz.call48⟩,
  ⟨_, Tryz.func49, (by kernel_rfl : Tryz.f49.body = some ecode49), (by kernel_rfl), rfl, (by kernel_rfl), Tryz.call49⟩,
  ⟨_, Tryz.func50, (by kernel_rfl : Tryz.f50.body = some ecode50), (by kernel_rfl), rfl, (by kernel_rfl), Tryz.call50⟩,
  ⟨_, Tryz.func51, (by kernel_rfl : Tryz.f51.body = some ecode51), (by kernel_rfl), rfl, (by kernel_rfl), Tryz.call51⟩,
  ⟨_, Tryz.func52, (by kernel_rfl : Tryz.f52.body = some ecode52), (by kernel_rfl), rfl, (by kernel_rfl), Tryz.call52⟩,
  ⟨_, Tryz.func53, (by kernel_rfl : Tryz.f53.body = some ecode53), (by kernel_rfl), rfl, (by kernel_rfl), Tryz.call53⟩,
  ⟨_, Tryz.func54, (by kernel_rfl : Tryz.f54.body = some ecode54), (by kernel_rfl), rfl, (by kernel_rfl), Tryz.call54⟩,
  ⟨_, Tryz.func55, (by kernel_rfl : Tryz.f55.body = some ecode55), (by kernel_rfl), rfl, (by kernel_rfl), Tryz.call55⟩,
  ⟨_, Tryz.func56, (by kernel_rfl : Tryz.f56.body = some ecode56), (by kernel_rfl), rfl, (by kernel_rfl), Tryz.call56⟩,
  ⟨_, Tryz.func57, (by kernel_rfl : Tryz.f57.body = some ecode57), (by kernel_rfl), rfl, (by kernel_rfl), Tryz.call57⟩,
  ⟨_, Tryz.func58, (by kernel_rfl : Tryz.f58.body = some ecode58), (by kernel_rfl), rfl, (by kernel_rfl), Tryz.call58⟩,
  ⟨_, Tryz.func59, (by kernel_rfl : Tryz.f59.body = some ecode59), (by kernel_rfl), rfl, (by kernel_rfl), Tryz.call59⟩,
  ⟨_, Tryz.func60, (by kernel_rfl : Tryz.f60.body = some ecode60), (by kernel_rfl), rfl, (by kernel_rfl), Tryz.call60⟩,
  ⟨_, Tryz.func61, (by kernel_rfl : Tryz.f61.body = some ecode61), (by kernel_rfl), rfl, (by kernel_rfl), Tryz.call61⟩,
  ⟨_, Tryz.func62, (by kernel_rfl : Tryz.f62.body = some ecode62), (by kernel_rfl), rfl, (by kernel_rfl), Tryz.call62⟩,
  ⟨_, Tryz.func63, (by kernel_rfl : Tryz.f63.body = some ecode63), (by kernel_rfl), rfl, (by kernel_rfl), Tryz.call63⟩,
  ⟨_, Tryz.func64, (by kernel_rfl : Tryz.f64.body = some ecode64), (by kernel_rfl), rfl, (by kernel_rfl), Tryz.call64⟩,
  ⟨_, Tryz.func65, (by kernel_rfl : Tryz.f65.body = some ecode65), (by kernel_rfl), rfl, (by kernel_rfl), Tryz.call65⟩,
  ⟨_, Tryz.func67, (by kernel_rfl : Tryz.f67.body = some ecode67), (by kernel_rfl), rfl, (by kernel_rfl), Tryz.call67⟩,
  ⟨_, Tryz.func68, (by kernel_rfl : Tryz.f68.body = some ecode68), (by kernel_rfl), rfl, (by kernel_rfl), Tryz.call68⟩,
  ⟨_, Tryz.func69, (by kernel_rfl : Tryz.f69.body = some ecode69), (by kernel_rfl), rfl, (by kernel_rfl), Tryz.call69⟩,
  ⟨_, Tryz.func70, (by kernel_rfl : Tryz.f70.body = some ecode70), (by kernel_rfl), rfl, (by kernel_rfl), Tryz.call70⟩,
  ⟨_, Tryz.func71, (by kernel_rfl : Tryz.f71.body = some ecode71), (by kernel_rfl), rfl, (by kernel_rfl), Tryz.call71⟩,
  ⟨_, Tryz.func72, (by kernel_rfl : Tryz.f72.body = some ecode72), (by kernel_rfl), rfl, (by kernel_rfl), Tryz.call72⟩,
  ⟨_, Tryz.func73, (by kernel_rfl : Tryz.f73.body = some ecode73), (by kernel_rfl), rfl, (by kernel_rfl), Tryz.call73⟩,
  ⟨_, Tryz.func74, (by kernel_rfl : Tryz.f74.body = some ecode74), (by kernel_rfl), rfl, (by kernel_rfl), Tryz.call74⟩,
  ⟨_, Tryz.func75, (by kernel_rfl : Tryz.f75.body = some ecode75), (by kernel_rfl), rfl, (by kernel_rfl), Tryz.call75⟩,
  ⟨_, Tryz.func76, (by kernel_rfl : Tryz.f76.body = some ecode76), (by kernel_rfl), rfl, (by kernel_rfl), Tryz.call76⟩,
  ⟨_, Tryz.func77, (by kernel_rfl : Tryz.f77.body = some ecode77), (by kernel_rfl), rfl, (by kernel_rfl), Tryz.call77⟩,
  ⟨_, Tryz.func78, (by kernel_rfl : Tryz.f78.body = some ecode78), (by kernel_rfl), rfl, (by kernel_rfl), Tryz.call78⟩,
  ⟨_, Tryz.func79, (by kernel_rfl : Tryz.f79.body = some ecode79), (by kernel_rfl), rfl, (by kernel_rfl), Tryz.call79⟩,
  ⟨_, Tryz.func80, (by kernel_rfl : Tryz.f80.body = some ecode80), (by kernel_rfl), rfl, (by kernel_rfl), Tryz.call80⟩,
  ⟨_, Tryz.func81, (by kernel_rfl : Tryz.f81.body = some ecode81), (by kernel_rfl), rfl, (by kernel_rfl), Tryz.call81⟩,
  ⟨_, Tryz.func82, (by kernel_rfl : Tryz.f82.body = some ecode82), (by kernel_rfl), rfl, (by kernel_rfl), Tryz.call82⟩,
  ⟨_, Tryz.func83, (by kernel_rfl : Tryz.f83.body = some ecode83), (by kernel_rfl), rfl, (by kernel_rfl), Tryz.call83⟩,
  ⟨_, Tryz.func84, (by kernel_rfl : Tryz.f84.body = some ecode84), (by kernel_rfl), rfl, (by kernel_rfl), Tryz.call84⟩,
  ⟨_, Tryz.func85, (by kernel_rfl : Tryz.f85.body = some ecode85), (by kernel_rfl), rfl, (by kernel_rfl), Tryz.call85⟩,
  ⟨_, Tryz.func86, (by kernel_rfl : Tryz.f86.body = some ecode86), (by kernel_rfl), rfl, (by kernel_rfl), Tryz.call86⟩,
  ⟨_, Tryz.func87, (by kernel_rfl : Tryz.f87.body = some ecode87), (by kernel_rfl), rfl, (by kernel_rfl), Tryz.call87⟩,
  ⟨_, Tryz.func88, (by kernel_rfl : Tryz.f88.body = some ecode88), (by kernel_rfl), rfl, (by kernel_rfl), Tryz.call88⟩,
  ⟨_, Tryz.func89, (by kernel_rfl : Tryz.f89.body = some ecode89), (by kernel_rfl), rfl, (by kernel_rfl), Tryz.call89⟩,
  ⟨_, Tryz.func90, (by kernel_rfl : Tryz.f90.body = some ecode90), (by kernel_rfl), rfl, (by kernel_rfl), Tryz.call90⟩,
  ⟨_, Tryz.func91, (by kernel_rfl : Tryz.f91.body = some ecode91), (by kernel_rfl), rfl, (by kernel_rfl), Tryz.call91⟩,
  ⟨_, Tryz.func92, (by kernel_rfl : Tryz.f92.body = some ecode92), (by kernel_rfl), rfl, (by kernel_rfl), Tryz.call92⟩,
  ⟨_, Tryz.func93, (by kernel_rfl : Tryz.f93.body = some ecode93), (by kernel_rfl), rfl, (by kernel_rfl), Tryz.call93⟩,
  ⟨_, Tryz.func94, (by kernel_rfl : Tryz.f94.body = some ecode94), (by kernel_rfl), rfl, (by kernel_rfl), Tryz.call94⟩,
  ⟨_, Tryz.func95, (by kernel_rfl : Tryz.f95.body = some ecode95), (by kernel_rfl), rfl, (by kernel_rfl), Tryz.call95⟩,
  ⟨_, Tryz.func96, (by kernel_rfl : Tryz.f96.body = some ecode96), (by kernel_rfl), rfl, (by kernel_rfl), Tryz.call96⟩,
  ⟨_, Tryz.func97, (by kernel_rfl : Tryz.f97.body = some ecode97), (by kernel_rfl), rfl, (by kernel_rfl), Tryz.call97⟩,
  ⟨_, Tryz.func98, (by kernel_rfl : Tryz.f98.body = some ecode98), (by kernel_rfl), rfl, (by kernel_rfl), Tryz.call98⟩,
  ⟨_, Tryz.func99, (by kernel_rfl : Tryz.f99.body = some ecode99), (by kernel_rfl), rfl, (by kernel_rfl), Tryz.call99⟩,
  ⟨_, Tryz.func100, (by kernel_rfl : Tryz.f100.body = some ecode100), (by kernel_rfl), rfl, (by kernel_rfl), Tryz.call100⟩,
  ⟨_, Tryz.func101, (by kernel_rfl : Tryz.f101.body = some ecode101), (by kernel_rfl), rfl, (by kernel_rfl), Tryz.call101⟩,
  ⟨_, Tryz.func102, (by kernel_rfl : Tryz.f102.body = some ecode102), (by kernel_rfl), rfl, (by kernel_rfl), Tryz.call102⟩,
  ⟨_, Tryz.func103, (by kernel_rfl : Tryz.f103.body = some ecode103), (by kernel_rfl), rfl, (by kernel_rfl), Tryz.call103⟩,
  ⟨_, Tryz.func104, (by kernel_rfl : Tryz.f104.body = some ecode104), (by kernel_rfl), rfl, (by kernel_rfl), Tryz.call104⟩,
  ⟨_, Tryz.func105, (by kernel_rfl : Tryz.f105.body = some ecode105), (by kernel_rfl), rfl, (by kernel_rfl), Tryz.call105⟩,
  ⟨_, Tryz.func106, (by kernel_rfl : Tryz.f106.body = some ecode106), (by kernel_rfl), rfl, (by kernel_rfl), Tryz.call106⟩,
  ⟨_, Tryz.func107, (by kernel_rfl : Tryz.f107.body = some ecode107), (by kernel_rfl), rfl, (by kernel_rfl), Tryz.call107⟩,
  ⟨_, Tryz.func108, (by kernel_rfl : Tryz.f108.body = some ecode108), (by kernel_rfl), rfl, (by kernel_rfl), Tryz.call108⟩,
  ⟨_, Tryz.func109, (by kernel_rfl : Tryz.f109.body = some ecode109), (by kernel_rfl), rfl, (by kernel_rfl), Tryz.call109⟩,
  ⟨_, Tryz.func110, (by kernel_rfl : Tryz.f110.body = some ecode110), (by kernel_rfl), rfl, (by kernel_rfl), Tryz.call110⟩,
  ⟨_, Tryz.func111, (by kernel_rfl : Tryz.f111.body = some ecode111), (by kernel_rfl), rfl, (by kernel_rfl), Tryz.call111⟩,
  ⟨_, Tryz.func112, (by kernel_rfl : Tryz.f112.body = some ecode112), (by kernel_rfl), rfl, (by kernel_rfl), Tryz.call112⟩,
  ⟨_, Tryz.func113, (by kernel_rfl : Tryz.f113.body = some ecode113), (by kernel_rfl), rfl, (by kernel_rfl), Tryz.call113⟩,
  ⟨_, Tryz.func114, (by kernel_rfl : Tryz.f114.body = some ecode114), (by kernel_rfl), rfl, (by kernel_rfl), Tryz.call114⟩,
  ⟨_, Tryz.func115, (by kernel_rfl : Tryz.f115.body = some ecode115), (by kernel_rfl), rfl, (by kernel_rfl), Tryz.call115⟩,
  ⟨_, Tryz.func116, (by kernel_rfl : Tryz.f116.body = some ecode116), (by kernel_rfl), rfl, (by kernel_rfl), Tryz.call116⟩,
  ⟨_, Tryz.func117, (by kernel_rfl : Tryz.f117.body = some ecode117), (by kernel_rfl), rfl, (by kernel_rfl), Tryz.call117⟩,
  ⟨_, Tryz.func118, (by kernel_rfl : Tryz.f118.body = some ecode118), (by kernel_rfl), rfl, (by kernel_rfl), Tryz.call118⟩,
  ⟨_, Tryz.func119, (by kernel_rfl : Tryz.f119.body = some ecode119), (by kernel_rfl), rfl, (by kernel_rfl), Tryz.call119⟩,
  ⟨_, Tryz.func120, (by kernel_rfl : Tryz.f120.body = some ecode120), (by kernel_rfl), rfl, (by kernel_rfl), Tryz.call120⟩,
  ⟨_, Tryz.func121, (by kernel_rfl : Tryz.f121.body = some ecode121), (by kernel_rfl), rfl, (by kernel_rfl), Tryz.call121⟩,
  ⟨_, Tryz.func122, (by kernel_rfl : Tryz.f122.body = some ecode122), (by kernel_rfl), rfl, (by kernel_rfl), Tryz.call122⟩,
  ⟨_, Tryz.func123, (by kernel_rfl : Tryz.f123.body = some ecode123), (by kernel_rfl), rfl, (by kernel_rfl), Tryz.call123⟩,
  ⟨_, Tryz.func124, (by kernel_rfl : Tryz.f124.body = some ecode124), (by kernel_rfl), rfl, (by kernel_rfl), Tryz.call124⟩,
  ⟨_, Tryz.func125, (by kernel_rfl : Tryz.f125.body = some ecode125), (by kernel_rfl), rfl, (by kernel_rfl), Tryz.call125⟩,
  ⟨_, Tryz.func126, (by kernel_rfl : Tryz.f126.body = some ecode126), (by kernel_rfl), rfl, (by kernel_rfl), Tryz.call126⟩,
  ⟨_, Tryz.func127, (by kernel_rfl : Tryz.f127.body = some ecode127), (by kernel_rfl), rfl, (by kernel_rfl), Tryz.call127⟩,
  ⟨_, Tryz.func128, (by kernel_rfl : Tryz.f128.body = some ecode128), (by kernel_rfl), rfl, (by kernel_rfl), Tryz.call128⟩,
  ⟨_, Tryz.func129, (by kernel_rfl : Tryz.f129.body = some ecode129), (by kernel_rfl), rfl, (by kernel_rfl), Tryz.call129⟩,
  ⟨_, Tryz.func130, (by kernel_rfl : Tryz.f130.body = some ecode130), (by kernel_rfl), rfl, (by kernel_rfl), Tryz.call130⟩,
  ⟨_, Tryz.func131, (by kernel_rfl : Tryz.f131.body = some ecode131), (by kernel_rfl), rfl, (by kernel_rfl), Tryz.call131⟩,
  ⟨_, Tryz.func132, (by kernel_rfl : Tryz.f132.body = some ecode132), (by kernel_rfl), rfl, (by kernel_rfl), Tryz.call132⟩,
  ⟨_, Tryz.func133, (by kernel_rfl : Tryz.f133.body = some ecode133), (by kernel_rfl), rfl, (by kernel_rfl), Tryz.call133⟩,
  ⟨_, Tryz.func134, (by kernel_rfl : Tryz.f134.body = some ecode134), (by kernel_rfl), rfl, (by kernel_rfl), Tryz.call134⟩,
  ⟨_, Tryz.func135, (by kernel_rfl : Tryz.f135.body = some ecode135), (by kernel_rfl), rfl, (by kernel_rfl), Tryz.call135⟩,
  ⟨_, Tryz.func136, (by kernel_rfl : Tryz.f136.body = some ecode136), (by kernel_rfl), rfl, (by kernel_rfl), Tryz.call136⟩,
  ⟨_, Tryz.func137, (by kernel_rfl : Tryz.f137.body = some ecode137), (by kernel_rfl), rfl, (by kernel_rfl), Tryz.call137⟩,
  ⟨_, Tryz.func138, (by kernel_rfl : Tryz.f138.body = some ecode138), (by kernel_rfl), rfl, (by kernel_rfl), Tryz.call138⟩,
  ⟨_, Tryz.func139, (by kernel_rfl : Tryz.f139.body = some ecode139), (by kernel_rfl), rfl, (by kernel_rfl), Tryz.call139⟩,
  ⟨_, Tryz.func140, (by kernel_rfl : Tryz.f140.body = some ecode140), (by kernel_rfl), rfl, (by kernel_rfl), Tryz.call140⟩,
  ⟨_, Tryz.func141, (by kernel_rfl : Tryz.f141.body = some ecode141), (by kernel_rfl), rfl, (by kernel_rfl), Tryz.call141⟩,
  ⟨_, Tryz.func142, (by kernel_rfl : Tryz.f142.body = some ecode142), (by kernel_rfl), rfl, (by kernel_rfl), Tryz.call142⟩,
  ⟨_, Tryz.func143, (by kernel_rfl : Tryz.f143.body = some ecode143), (by kernel_rfl), rfl, (by kernel_rfl), Tryz.call143⟩,
  ⟨_, Tryz.func144, (by kernel_rfl : Tryz.f144.body = some ecode144), (by kernel_rfl), rfl, (by kernel_rfl), Tryz.call144⟩,
  ⟨_, Tryz.func145, (by kernel_rfl : Tryz.f145.body = some ecode145), (by kernel_rfl), rfl, (by kernel_rfl), Tryz.call145⟩,
  ⟨_, Tryz.func146, (by kernel_rfl : Tryz.f146.body = some ecode146), (by kernel_rfl), rfl, (by kernel_rfl), Tryz.call146⟩,
  ⟨_, Tryz.func147, (by kernel_rfl : Tryz.f147.body = some ecode147), (by kernel_rfl), rfl, (by kernel_rfl), Tryz.call147⟩,
  ⟨_, Tryz.func148, (by kernel_rfl : Tryz.f148.body = some ecode148), (by kernel_rfl), rfl, (by kernel_rfl), Tryz.call148⟩,
  ⟨_, Tryz.func149, (by kernel_rfl : Tryz.f149.body = some ecode149), (by kernel_rfl), rfl, (by kernel_rfl), Tryz.call149⟩,
  ⟨_, Tryz.func150, (by kernel_rfl : Tryz.f150.body = some ecode150), (by kernel_rfl), rfl, (by kernel_rfl), Tryz.call150⟩,
  ⟨_, Tryz.func151, (by kernel_rfl : Tryz.f151.body = some ecode151), (by kernel_rfl), rfl, (by kernel_rfl), Tryz.call151⟩,
  ⟨_, Tryz.func152, (by kernel_rfl : Tryz.f152.body = some ecode152), (by kernel_rfl), rfl, (by kernel_rfl), Tryz.call152⟩,
  ⟨_, Tryz.func153, (by kernel_rfl : Tryz.f153.body = some ecode153), (by kernel_rfl), rfl, (by kernel_rfl), Tryz.call153⟩,
  ⟨_, Tryz.func154, (by kernel_rfl : Tryz.f154.body = some ecode154), (by kernel_rfl), rfl, (by kernel_rfl), Tryz.call154⟩, trivial⟩
theorem efnsOk : FnsOk Tryz.prog efns := FnAll.ok efnsAll
end Go.Proofs.YtkneoodgoadpaaaGreatDoor

namespace Go.V
open Go.RowKit (Below)
def okB : Option (Value × AMem) → Bool
  | some (.bool true, _) => true
  | _ => false
def emptyM : AMem := ⟨[], 0, 0, []⟩
theorem Mem.empty (w : World) : Mem w ⟨fun _ => 0, fun _ => 0, fun _ => 0, fun _ => False, fun _ => False⟩ emptyM w :=
  ⟨Below.refl _ _, fun _ h => h.elim, fun _ h => h.elim, fun _ _ h => (by cases h), fun _ _ h => (by cases h), fun _ _ _ _ h => (by cases h)⟩
theorem true_of_okB {P : Program} {callE : World → FuncId → List Value → AMem → Option (Value × AMem)} (hc : ∀ w, CallOk P w (callE w)) {f : FuncId} {us vs : List Value} (h : ∀ w, okB (callE w f us emptyM) = true) (r : ∀ ρ, LR ρ us vs) (w : World) :
    Calls P f vs.toArray w fun en w' => en = .returned (.bool true) ∧ Below w.heap.size w w' := by
  have h := h w
  unfold okB at h
  split at h
  · rename_i m' he
    refine Calls.mono ((hc w f us emptyM _ m' he).2 _ vs w (r _) (Mem.empty w)) ?_
    rintro en w' ⟨ρ', v, ev, rv, rfl⟩
    cases rv
    exact ⟨rfl, ev.mem.x⟩
  · cases h
end Go.V

namespace Go.Proofs.YtkneoodgoadpaaaGreatDoor
open Go Go.V Go.Proofs
open Go.RowKit (Below)
theorem netNil_ev (a b : Int) : okB (callF Tryz.prog etab efns 100000 200 false 3 [.int .i64 a, .int .i64 b] emptyM) = true := by kernel_rfl
theorem netNil_calls (a b : Int) (w : World) : Calls Tryz.prog 3 #[.int .i64 a, .int .i64 b] w fun en w' => en = .returned (.bool true) ∧ Below w.heap.size w w' :=
  true_of_okB (callE := fun _ => callF Tryz.prog etab efns 100000 200 false) (fun _ => (callF_ok etabOk emixed efnsOk 100000 200 false).1) (fun _ => netNil_ev a b) (fun _ => .cons (.int _ _) (.cons (.int _ _) .nil)) w
end Go.Proofs.YtkneoodgoadpaaaGreatDoor
