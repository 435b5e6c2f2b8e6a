/- A part of the proof: plain forms of functions and laws about them. -/
import Derived.Test.YtbiamhoonhjodabGreatDoorGrorBj
import Derived.Deep.Upon
namespace Go.V
open Go.RowKit (Below)
abbrev Ka (ι : Type) := Nat → Option (ι × Nat × Nat)
structure KS (ι : Type) where
  ty : ι → TypeId
  sz : ι → Nat
  pos : ∀ k, 0 < sz k
abbrev OkF (ι : Type) := Ka ι → ι → Nat → Value → Prop
section
variable {ι : Type} {S : KS ι} {O O' : OkF ι} {κ κ' κ'' : Ka ι} {w w' w'' : World} {k : ι}
def Kle (κ κ' : Ka ι) : Prop := ∀ b k n u, κ b = some (k, n, u) → ∃ u', u ≤ u' ∧ κ' b = some (k, n, u')
structure OkM (O : OkF ι) : Prop where
  mono : ∀ κ κ' k j v, Kle κ κ' → O κ k j v → O κ' k j v
  one : ∀ κ k j v, O κ k j v → v.oneCell' = true
def Ty (S : KS ι) (O : OkF ι) (κ : Ka ι) (w : World) : Prop :=
  ∀ b k n u, κ b = some (k, n, u) → ∃ cs : Array Value, Blk w b cs (S.ty k) ∧ cs.size = n ∧ u ≤ n ∧ ∀ i v, i < u → cs[i]? = some v → O κ k (i % S.sz k) v
def Sl (S : KS ι) (κ : Ka ι) (k : ι) (s : SL) : Prop :=
  s = (none, 0, 0) ∨ ∃ g j n u, s.1 = some ⟨g, j * S.sz k, none⟩ ∧ κ g = some (k, n, u) ∧ s.2.1 ≤ s.2.2 ∧ (j + s.2.1) * S.sz k ≤ u ∧ (j + s.2.2) * S.sz k ≤ n
structure Pk (X : ι → Prop) (κ κ' : Ka ι) (w w' : World) : Prop where
  os : w'.os = w.os
  tape : w'.tape = w.tape
  output : w'.output = w.output
  size : w.heap.size ≤ w'.heap.size
  block : ∀ b, b < w.heap.size → κ b = none → w'.heap[b]? = w.heap[b]?
  free : ∀ b, b < w.heap.size → κ b = none → κ' b = none
  le : Kle κ κ'
  keep : ∀ b k n u, κ b = some (k, n, u) → ¬ X k → w'.heap[b]? = w.heap[b]?
theorem Kle.refl (κ : Ka ι) : Kle κ κ := fun _ _ _ u h => ⟨u, Nat.le_refl _, h⟩
theorem Kle.trans (h : Kle κ κ') (h' : Kle κ' κ'') : Kle κ κ'' := fun b k n u e => by
  obtain ⟨u1, l1, e1⟩ := h b k n u e
  obtain ⟨u2, l2, e2⟩ := h' b k n u1 e1
  exact ⟨u2, Nat.le_trans l1 l2, e2⟩
theorem Ty.lt (h : Ty S O κ w) {b n u : Nat} (e : κ b = some (k, n, u)) : b < w.heap.size := by
  obtain ⟨cs, hb, _⟩ := h b k n u e; exact hb.lt
theorem Ty.none_top (h : Ty S O κ w) {b : Nat} (hb : w.heap.size ≤ b) : κ b = none := by
  cases e : κ b with
  | none => rfl
  | some x => obtain ⟨k, n, u⟩ := x; have := h.lt e; omega
theorem Ty.frame (h : Ty S O κ w) (g : ∀ b, κ b ≠ none → w'.heap[b]? = w.heap[b]?) : Ty S O κ w' := fun b k n u e => by
  obtain ⟨cs, hb, r⟩ := h b k n u e
  exact ⟨cs, (g b (by rw [e]; simp)).trans hb, r⟩
theorem Ty.ext (h : Ty S O κ w) (x : Ext w w') : Ty S O κ w' := fun b k n u e => by
  obtain ⟨cs, hb, r⟩ := h b k n u e
  exact ⟨cs, hb.ext x, r⟩
theorem Ty.but {b : Nat} (h : Ty S O κ w) (x : But b w w') (hb : κ b = none) : Ty S O κ w' := h.frame fun b' h' => x.block b' fun e => h' (e ▸ hb)
theorem Ty.weak (h : Ty S O κ w) (g : ∀ k j v, O κ k j v → O' κ k j v) : Ty S O' κ w := fun b k n u e => by
  obtain ⟨cs, hb, h1, h2, r⟩ := h b k n u e
  exact ⟨cs, hb, h1, h2, fun i v hi hv => g _ _ _ (r i v hi hv)⟩
theorem Sl.le {s : SL} (h : Sl S κ k s) (l : Kle κ κ') : Sl S κ' k s := by
  rcases h with h | ⟨g, j, n, u, h1, h2, h3, h4, h5⟩
  · exact .inl h
  · obtain ⟨u', hu, h2'⟩ := l _ _ _ _ h2
    exact .inr ⟨g, j, n, u', h1, h2', h3, Nat.le_trans h4 hu, h5⟩
theorem Sl.nil (S : KS ι) (κ : Ka ι) (k : ι) : Sl S κ k (none, 0, 0) := .inl rfl
theorem Pk.refl (X : ι → Prop) (κ : Ka ι) (w : World) : Pk X κ κ w w := ⟨rfl, rfl, rfl, Nat.le_refl _, fun _ _ _ => rfl, fun _ _ h => h, Kle.refl κ, fun _ _ _ _ _ _ => rfl⟩
theorem Pk.ofExt (X : ι → Prop) (h : Ty S O κ w) (x : Ext w w') : Pk X κ κ w w' := ⟨x.os, x.tape, x.output, x.size, fun b hb _ => x.block b hb, fun _ _ h => h, Kle.refl κ, fun b _ _ _ e _ => x.block b (h.lt e)⟩
theorem Pk.trans {X : ι → Prop} (h : Pk X κ κ' w w') (g : Pk X κ' κ'' w' w'') : Pk X κ κ'' w w'' where
  os := g.os.trans h.os
  tape := g.tape.trans h.tape
  output := g.output.trans h.output
  size := Nat.le_trans h.size g.size
  block := fun b hb e => (g.block b (Nat.lt_of_lt_of_le hb h.size) (h.free b hb e)).trans (h.block b hb e)
  free := fun b hb e => g.free b (Nat.lt_of_lt_of_le hb h.size) (h.free b hb e)
  le := h.le.trans g.le
  keep := fun b k n u e hX => by
    obtain ⟨u', _, e'⟩ := h.le b k n u e
    exact (g.keep b k n u' e' hX).trans (h.keep b k n u e hX)
theorem Pk.mono {X Y : ι → Prop} (h : Pk X κ κ' w w') (g : ∀ k, X k → Y k) : Pk Y κ κ' w w' := ⟨h.os, h.tape, h.output, h.size, h.block, h.free, h.le, fun b k n u e hY => h.keep b k n u e fun hX => hY (g k hX)⟩
theorem Pk.blk {X : ι → Prop} (h : Pk X κ κ' w w') {b t : Nat} {cs : Array Value} (hb : Blk w b cs t) (e : κ b = none) : Blk w' b cs t := (h.block b hb.lt e).trans hb
theorem Pk.but {X : ι → Prop} {b : Nat} (h : Pk X κ κ' w w') (x : But b w' w'') (hb : w.heap.size ≤ b) (ht : κ b = none) : Pk X κ κ' w w'' :=
  ⟨x.os.trans h.os, x.tape.trans h.tape, x.output.trans h.output, by rw [x.size]; exact h.size, fun i hi e => (x.block i (by omega)).trans (h.block i hi e), h.free, h.le, fun i k n u e hX => by
    refine (x.block i fun hib => ?_).trans (h.keep i k n u e hX)
    rw [hib, ht] at e; cases e⟩
theorem Pk.butK {X : ι → Prop} {b n u : Nat} (h : Pk X κ κ' w w') (x : But b w' w'') (e : κ' b = some (k, n, u)) (hX : X k) : Pk X κ κ' w w'' where
  os := x.os.trans h.os
  tape := x.tape.trans h.tape
  output := x.output.trans h.output
  size := by rw [x.size]; exact h.size
  block := fun i hi e2 => by
    refine (x.block i fun hib => ?_).trans (h.block i hi e2)
    have := h.free i hi e2; rw [hib, e] at this; cases this
  free := h.free
  le := h.le
  keep := fun i k2 n2 u2 e2 hX2 => by
    refine (x.block i fun hib => ?_).trans (h.keep i k2 n2 u2 e2 hX2)
    obtain ⟨u3, _, e3⟩ := h.le _ _ _ _ e2
    rw [hib, e] at e3; cases e3; exact hX2 hX
theorem Ty.cell (h : Ty S O κ w) {b n u i : Nat} (e : κ b = some (k, n, u)) (hi : i < u) : ∃ v, w.cell? ⟨b, i, none⟩ = some v ∧ O κ k (i % S.sz k) v := by
  obtain ⟨cs, hb, h1, h2, r⟩ := h b k n u e
  have hi' : i < cs.size := by omega
  exact ⟨cs[i], by rw [hb.cell, Array.getElem?_eq_getElem hi'], r i _ hi (Array.getElem?_eq_getElem hi')⟩
theorem Sl.at_ {s : SL} (hs : Sl S κ k s) (h : Ty S O κ w) {i : Nat} (hi : i < s.2.1) : ∃ g o n u, s.1 = some ⟨g, o, none⟩ ∧ κ g = some (k, n, u) ∧
    ∀ j, j < S.sz k → o + i * S.sz k + j < u ∧ (o + i * S.sz k + j) % S.sz k = j ∧ ∃ v, w.cell? ⟨g, o + i * S.sz k + j, none⟩ = some v ∧ O κ k j v := by
  rcases hs with rfl | ⟨g, j0, n, u, h1, h2, h3, h4, h5⟩
  · simp at hi
  refine ⟨g, j0 * S.sz k, n, u, h1, h2, fun j hj => ?_⟩
  have e1 : j0 * S.sz k + i * S.sz k + j = (j0 + i) * S.sz k + j := by rw [Nat.add_mul]
  have e2 : (j0 + i + 1) * S.sz k ≤ (j0 + s.2.1) * S.sz k := Nat.mul_le_mul_right _ (by omega)
  rw [Nat.succ_mul] at e2
  have e3 : j0 * S.sz k + i * S.sz k + j < u := by rw [e1]; omega
  have e4 : (j0 * S.sz k + i * S.sz k + j) % S.sz k = j := by rw [e1, Nat.mul_comm, Nat.mul_add_mod, Nat.mod_eq_of_lt hj]
  obtain ⟨v, hv, ho⟩ := h.cell h2 e3
  rw [e4] at ho
  exact ⟨e3, e4, v, hv, ho⟩
theorem Ty.set (h : Ty S O κ w) {b n u i : Nat} {v : Value} (e : κ b = some (k, n, u)) (hi : i < u) (hv : O κ k (i % S.sz k) v) {F : World → Prop} (f : ∀ w', Ty S O κ w' → But b w w' → F w') : SetK w ⟨b, i, none⟩ v F := by
  obtain ⟨cs, hb, h1, h2, r⟩ := h b k n u e
  refine SetK.mk hb (by omega) fun w' hb' bu => f w' (fun b2 k2 n2 u2 e2 => ?_) bu
  by_cases hbb : b2 = b
  · subst hbb
    rw [e] at e2; cases e2
    refine ⟨_, hb', by simpa using h1, h2, fun i2 v2 hi2 hv2 => ?_⟩
    rw [Array.getElem?_setIfInBounds] at hv2
    split at hv2
    · rename_i hii; subst hii
      rw [if_pos (by omega)] at hv2; cases hv2; exact hv
    · exact r i2 v2 hi2 hv2
  · obtain ⟨cs2, hb2, r2⟩ := h b2 k2 n2 u2 e2
    exact ⟨cs2, bu.blk hb2 hbb, r2⟩
def Ka.put (κ : Ka ι) (b : Nat) (k : ι) (n u : Nat) : Ka ι := fun x => if x = b then some (k, n, u) else κ x
theorem Ka.put_same (κ : Ka ι) (b : Nat) (k : ι) (n u : Nat) : κ.put b k n u b = some (k, n, u) := by simp [Ka.put]
theorem Kle.put {b n u : Nat} (h : κ b = none) : Kle κ (κ.put b k n u) := fun b' k' n' u' e => ⟨u', Nat.le_refl _, by
  unfold Ka.put; rw [if_neg (fun hb => by rw [hb, h] at e; cases e)]; exact e⟩
theorem Kle.grow {b n u u' : Nat} (h : κ b = some (k, n, u)) (hu : u ≤ u') : Kle κ (κ.put b k n u') := fun b2 k2 n2 u2 e => by
  by_cases hb : b2 = b
  · subst hb; rw [h] at e; cases e; exact ⟨u', hu, Ka.put_same _ _ _ _ _⟩
  · exact ⟨u2, Nat.le_refl _, by unfold Ka.put; rw [if_neg hb]; exact e⟩
theorem Ty.put (hM : OkM O) (h : Ty S O κ w) {b u : Nat} {cs : Array Value} (hb : Blk w b cs (S.ty k)) (e : κ b = none) (hu : u ≤ cs.size) (hO : ∀ i v, i < u → cs[i]? = some v → O (κ.put b k cs.size u) k (i % S.sz k) v) : Ty S O (κ.put b k cs.size u) w := fun b2 k2 n2 u2 e2 => by
  unfold Ka.put at e2
  split at e2
  · rename_i hbb; subst hbb; cases e2
    exact ⟨cs, hb, rfl, hu, hO⟩
  · obtain ⟨cs2, h1, h2, h3, r⟩ := h b2 k2 n2 u2 e2
    exact ⟨cs2, h1, h2, h3, fun i v hi hv => hM.mono _ _ _ _ _ (Kle.put e) (r i v hi hv)⟩
theorem Pk.put {X : ι → Prop} {b n u : Nat} (h : Pk X κ κ' w w') (hb : w.heap.size ≤ b) (e : κ' b = none) : Pk X κ (κ'.put b k n u) w w' :=
  ⟨h.os, h.tape, h.output, h.size, h.block, fun i hi e2 => by unfold Ka.put; rw [if_neg (by omega)]; exact h.free i hi e2, h.le.trans (Kle.put e), h.keep⟩
theorem Ty.new (hM : OkM O) (h : Ty S O κ w) (k : ι) {cs : Array Value} (hO : ∀ κ' i v, Kle κ κ' → cs[i]? = some v → O κ' k (i % S.sz k) v) {X : ι → Prop} {F : Addr → World → Prop}
    (f : ∀ b w' κ', b = w.heap.size → κ' b = some (k, cs.size, cs.size) → Ty S O κ' w' → Pk X κ κ' w w' → F ⟨b, 0, none⟩ w') : AllocK w cs (S.ty k) F :=
  AllocK.mk fun b w' hb hB hx => by
    have h' := h.ext hx
    have e : κ b = none := h.none_top (by omega)
    exact f b w' (κ.put b k cs.size cs.size) hb (Ka.put_same _ _ _ _ _) (h'.put hM hB e (Nat.le_refl _) fun i v _ hv => hO _ i v (Kle.put e) hv) ((Pk.ofExt X h hx).put (by omega) e)
theorem Sl.cut {a : Option Addr} {l c lo hi : Nat} (h : Sl S κ k (a, l, c)) (h1 : lo ≤ hi) (h2 : hi ≤ l) : Sl S κ k (if c = lo then a else a.map (·.add (lo * S.sz k)), hi - lo, c - lo) := by
  rcases h with h | ⟨g, j, n, u, e1, e2, e3, e4, e5⟩
  · cases h; left; simp only [Prod.mk.injEq]; refine ⟨by split <;> rfl, by omega, by omega⟩
  · simp only at e1 e3 e4 e5; subst e1
    by_cases hc : c = lo
    · rw [if_pos hc]
      refine .inr ⟨g, j, n, u, rfl, e2, by show hi - lo ≤ c - lo; omega, ?_, ?_⟩
      · exact Nat.le_trans (Nat.mul_le_mul_right _ (by show j + (hi - lo) ≤ j + l; omega)) e4
      · exact Nat.le_trans (Nat.mul_le_mul_right _ (by show j + (c - lo) ≤ j + c; omega)) e5
    · rw [if_neg hc]
      refine .inr ⟨g, j + lo, n, u, by simp [add_mk, Nat.add_mul], e2, by show hi - lo ≤ c - lo; omega, ?_, ?_⟩
      · exact Nat.le_trans (Nat.mul_le_mul_right _ (by show j + lo + (hi - lo) ≤ j + l; omega)) e4
      · exact Nat.le_trans (Nat.mul_le_mul_right _ (by show j + lo + (c - lo) ≤ j + c; omega)) e5
theorem Sl.news (h : Ty S O κ w) {a : Option Addr} {l c : Nat} (hs : Sl S κ k (a, l, c)) : (a = none ∧ l = 0) ∨ ∃ (p : Addr) (news : List Value), a = some p ∧ news.length = l * S.sz k ∧
    (∀ j u, news[j]? = some u → w.cell? (p.add j) = some u) ∧ ∀ j u, news[j]? = some u → O κ k (j % S.sz k) u := by
  rcases hs with hs | ⟨g, j0, n, u, e1, e2, e3, e4, e5⟩
  · cases hs; exact .inl ⟨rfl, rfl⟩
  · simp only at e1 e3 e4 e5; subst e1
    obtain ⟨cs, hb, h1, h2, r⟩ := h g k n u e2
    rw [Nat.add_mul] at e4
    refine .inr ⟨_, (cs.toList.drop (j0 * S.sz k)).take (l * S.sz k), rfl, by rw [List.length_take, List.length_drop, Array.length_toList]; omega, fun j v hv => ?_, fun j v hv => ?_⟩
    · have hj : j < l * S.sz k := by have := (List.getElem?_eq_some_iff.1 hv).1; rw [List.length_take] at this; omega
      rw [List.getElem?_take_of_lt hj, List.getElem?_drop, Array.getElem?_toList] at hv
      rw [add_mk, hb.cell]; exact hv
    · have hj : j < l * S.sz k := by have := (List.getElem?_eq_some_iff.1 hv).1; rw [List.length_take] at this; omega
      rw [List.getElem?_take_of_lt hj, List.getElem?_drop, Array.getElem?_toList] at hv
      have := r _ v (by omega) hv
      rwa [Nat.mul_comm, Nat.mul_add_mod] at this
theorem Sl.ofOwn (hM : OkM O) (h : Ty S O κ w) {v : Value} {n : Nat} {xs : List Value} (ho : w'.ownsRow w.heap.size (S.ty k) (S.sz k) v n xs) (hg : w.grownBy w' none) (hO : ∀ j u, xs[j]? = some u → O κ k (j % S.sz k) u) :
    ∃ s' κ', v = .slice s'.1 s'.2.1 s'.2.2 ∧ Ty S O κ' w' ∧ Sl S κ' k s' ∧ s'.2.1 = n ∧ Pk (· = k) κ κ' w w' := by
  have hx : Ext w w' := Ext.grown hg rfl
  obtain ⟨hl, ho⟩ := ho
  rcases ho with ⟨rfl, h0⟩ | ⟨g, cap, cur, rfl, hbg, hg2, h3, h4, h5, h6⟩
  · have hn : n = 0 := by
      have := S.pos k
      rw [h0] at hl
      rcases Nat.eq_zero_or_pos n with h | h
      · exact h
      · have := Nat.mul_pos h this; simp at hl; omega
    exact ⟨(none, 0, 0), κ, rfl, h.ext hx, .inl rfl, hn.symm, Pk.ofExt _ h hx⟩
  · have h' := h.ext hx
    have e : κ g = none := h.none_top hbg
    have hle : n * S.sz k ≤ cur.size := by rw [h5]; exact Nat.mul_le_mul_right _ h3
    refine ⟨(some ⟨g, 0, none⟩, n, cap), κ.put g k cur.size (n * S.sz k), rfl, h'.put hM hg2 e hle fun i u hi hu => ?_, .inr ⟨g, 0, cur.size, n * S.sz k, by simp, Ka.put_same _ _ _ _ _, h3, by simp, by simp [h5]⟩, rfl, (Pk.ofExt _ h hx).put hbg e⟩
    refine hM.mono _ _ _ _ _ (Kle.put e) (hO i u ?_)
    rw [← h6, List.getElem?_take_of_lt hi, Array.getElem?_toList]; exact hu
theorem Sl.appendC {P : Program} {t ty bytes : Nat} (hM : OkM O) (H : SlT P t (S.ty k) (S.sz k) bytes) (h : Ty S O κ w) {a : Option Addr} {l c : Nat} (hs : Sl S κ k (a, l, c)) (ad : Addr) (m c2 : Nat) (news : List Value) (hl : news.length = m * S.sz k)
    (hc : ∀ j u, news[j]? = some u → w.cell? (ad.add j) = some u) (hO : ∀ j u, news[j]? = some u → O κ k (j % S.sz k) u) (hlen : (l + m) * bytes ≤ 140737488355328) :
    ∃ a' c' w' κ', Sem.run P (Builtin.append_ #[t, t] ty #[.slice a l c, .slice (some ad) m c2]) w = .ok (.slice a' (l + m) c') w' ∧ Ty S O κ' w' ∧ Sl S κ' k (a', l + m, c') ∧ Pk (· = k) κ κ' w w' := by
  obtain ⟨i, z, hi, hz, hsz, hby, hzs⟩ := H.info
  have h1 : ∀ u ∈ news, u.oneCell' = true := fun u hu => by
    obtain ⟨j, hj⟩ := List.getElem?_of_mem hu
    exact hM.one _ _ _ _ (hO j u hj)
  have h63 : l + m ≤ maxLen := by
    have := Nat.le_mul_of_pos_right (l + m) H.posB
    simp only [maxLen]; omega
  have fin : ∀ {v : Value} {w' : World} {xs : List Value}, Sem.run P (Builtin.append_ #[t, t] ty #[.slice a l c, .slice (some ad) m c2]) w = .ok v w' → w'.ownsRow w.heap.size (S.ty k) (S.sz k) v (l + m) xs → w.grownBy w' none → (∀ j u, xs[j]? = some u → O κ k (j % S.sz k) u) →
      ∃ a' c' w' κ', Sem.run P (Builtin.append_ #[t, t] ty #[.slice a l c, .slice (some ad) m c2]) w = .ok (.slice a' (l + m) c') w' ∧ Ty S O κ' w' ∧ Sl S κ' k (a', l + m, c') ∧ Pk (· = k) κ κ' w w' := by
    intro v w' xs hr ho hg hx
    obtain ⟨⟨a', l', c'⟩, κ', rfl, h2, h3, h4, h5⟩ := Sl.ofOwn hM h ho hg hx
    simp only at h4; subst h4
    exact ⟨a', c', w', κ', hr, h2, h3, h5⟩
  rcases hs with hs | ⟨g, j0, n, u, e1, e2, e3, e4, e5⟩
  · cases hs
    obtain ⟨v', w', q1, q2, q3, _, _⟩ := run_append_own_at (P := P) w w.heap.size t ty (S.ty k) i z (S.sz k) bytes H.under hi hz hsz hby hzs H.pos (.slice none 0 0) 0 [] (World.ownsRow_nil _ _ _ _) ad m c2 news hl hc h1 (by omega) (by simpa using hlen) (Nat.le_refl _)
    exact fin q1 (by simpa using q2) q3 (by simpa using hO)
  · simp only at e1 e3 e4 e5; subst e1
    obtain ⟨cs, hb, f1, f2, r⟩ := h g k n u e2
    have e4' := e4; have e5' := e5
    rw [Nat.add_mul] at e4' e5'
    by_cases hroom : l + m ≤ c
    · have hm : (l + m) * S.sz k ≤ c * S.sz k := Nat.mul_le_mul_right _ hroom
      rw [Nat.add_mul] at hm
      have hr := run_append_room_cells (P := P) w t ty (S.ty k) i H.under hi g (j0 * S.sz k) l c ad m c2 news (by rw [hsz]; exact hl) hc h1 hroom (fun j hj => by
        rw [hsz, hb.cell, Array.getElem?_eq_getElem (by omega)]; rfl) (fun j hj => hb.frozen _)
      rw [hsz] at hr
      obtain ⟨hb', bu⟩ := setCells_blk (g := g) (t := S.ty k) news w cs (j0 * S.sz k + l * S.sz k) hb
      refine ⟨_, _, _, κ.put g k n (max u ((j0 + (l + m)) * S.sz k)), hr, fun b2 k2 n2 u2 hk2 => ?_, .inr ⟨g, j0, n, _, rfl, Ka.put_same _ _ _ _ _, hroom, Nat.le_max_right _ _, e5⟩, ?_⟩
      · have hle := Kle.grow e2 (Nat.le_max_left u ((j0 + (l + m)) * S.sz k))
        unfold Ka.put at hk2
        split at hk2
        · rename_i hbb; subst hbb; cases hk2
          refine ⟨_, hb', by rw [putL_size]; exact f1, ?_, fun i2 v2 hi2 hv2 => ?_⟩
          · rw [Nat.max_le]; refine ⟨f2, Nat.le_trans (Nat.mul_le_mul_right _ ?_) e5⟩; omega
          · refine hM.mono _ _ _ _ _ hle ?_
            rw [putL_get _ _ _ (by omega)] at hv2
            split at hv2
            · rename_i hin
              have := hO _ _ hv2
              have e6 : i2 = (j0 + l) * S.sz k + (i2 - (j0 * S.sz k + l * S.sz k)) := by rw [Nat.add_mul]; omega
              rw [e6, Nat.mul_comm, Nat.mul_add_mod]; exact this
            · rename_i hin
              refine r i2 v2 ?_ hv2
              have : (j0 + (l + m)) * S.sz k = j0 * S.sz k + l * S.sz k + m * S.sz k := by rw [Nat.add_mul, Nat.add_mul]; omega
              omega
        · obtain ⟨cs2, p1, p2, p3, r2⟩ := h b2 k2 n2 u2 hk2
          exact ⟨cs2, bu.blk p1 (by rename_i hne; exact hne), p2, p3, fun i2 v2 hi2 hv2 => hM.mono _ _ _ _ _ hle (r2 i2 v2 hi2 hv2)⟩
      · refine ⟨bu.os, bu.tape, bu.output, by rw [bu.size]; exact Nat.le_refl _, fun b hb2 hn => bu.block b (fun e => by rw [e, e2] at hn; cases hn), fun b hb2 hn => ?_, Kle.grow e2 (Nat.le_max_left _ _), fun b k2 n2 u2 hk2 hX => bu.block b (fun e => ?_)⟩
        · unfold Ka.put; rw [if_neg (fun e => by rw [e, e2] at hn; cases hn)]; exact hn
        · rw [e, e2] at hk2; cases hk2; exact hX rfl
    · have holds : ∀ j u, ((cs.toList.drop (j0 * S.sz k)).take (l * S.sz k))[j]? = some u → w.cell? ((⟨g, j0 * S.sz k, none⟩ : Addr).add j) = some u := fun j v hv => by
        have hj : j < l * S.sz k := by have := (List.getElem?_eq_some_iff.1 hv).1; rw [List.length_take] at this; omega
        rw [List.getElem?_take_of_lt hj, List.getElem?_drop, Array.getElem?_toList] at hv
        rw [add_mk, hb.cell]; exact hv
      have hol : ((cs.toList.drop (j0 * S.sz k)).take (l * S.sz k)).length = l * S.sz k := by rw [List.length_take, List.length_drop, Array.length_toList]; omega
      obtain ⟨v', w', q1, q2, q3⟩ := run_append_arg_grows (P := P) w t ty (S.ty k) i z (S.sz k) bytes H.under hi hz hsz hby hzs H.pos ⟨g, j0 * S.sz k, none⟩ l c _ hol holds ad m c2 news hl hc (by omega) h63 hlen
      refine fin q1 q2 q3 fun j v hv => ?_
      rcases Nat.lt_or_ge j (l * S.sz k) with hj | hj
      · rw [List.getElem?_append_left (by rw [hol]; exact hj), List.getElem?_take_of_lt hj, List.getElem?_drop, Array.getElem?_toList] at hv
        have := r _ v (by omega) hv
        rwa [Nat.mul_comm, Nat.mul_add_mod] at this
      · rw [List.getElem?_append_right (by rw [hol]; exact hj), hol] at hv
        have := hO _ v hv
        have e6 : j = l * S.sz k + (j - l * S.sz k) := by omega
        rw [e6, Nat.mul_comm l, Nat.mul_add_mod, Nat.mul_comm (S.sz k)]; exact this
theorem Sl.push {P : Program} {t ty te bytes : Nat} (hM : OkM O) (H : SlT P t (S.ty k) (S.sz k) bytes) (h : Ty S O κ w) {a : Option Addr} {l c : Nat} (hs : Sl S κ k (a, l, c)) {cs : Array Value} (hcs : cs.size = S.sz k)
    (hO : ∀ j v, cs[j]? = some v → O κ k j v) (hlen : (l + 1) * bytes ≤ 140737488355328) {F : Option Addr → Nat → Nat → World → Prop}
    (f : ∀ a' c' w' κ', Ty S O κ' w' → Sl S κ' k (a', l + 1, c') → Pk (· = k) κ κ' w w' → F a' (l + 1) c' w') :
    AllocK w cs te fun b w1 => ∃ a' l' c' w2, Sem.run P (Builtin.append_ #[t, t] ty #[.slice a l c, .slice (some b) 1 1]) w1 = .ok (.slice a' l' c') w2 ∧ F a' l' c' w2 := by
  refine AllocK.mk fun b w1 hb hB hx => ?_
  obtain ⟨a', c', w', κ', q1, q2, q3, q4⟩ := Sl.appendC (ty := ty) hM H (h.ext hx) hs ⟨b, 0, none⟩ 1 1 cs.toList (by simp [hcs]) (fun j u hj => by rw [add_mk, Nat.zero_add, hB.cell, ← Array.getElem?_toList]; exact hj)
    (fun j u hj => by
      have hj2 : j < S.sz k := by rw [← hcs, ← Array.length_toList]; exact (List.getElem?_eq_some_iff.1 hj).1
      rw [Nat.mod_eq_of_lt hj2]; exact hO j u (by rw [← Array.getElem?_toList]; exact hj)) hlen
  exact ⟨a', _, c', w', q1, f a' c' w' κ' q2 q3 ((Pk.ofExt _ h hx).trans q4)⟩
theorem Sl.append {P : Program} {t ty bytes : Nat} (hM : OkM O) (H : SlT P t (S.ty k) (S.sz k) bytes) (h : Ty S O κ w) {a : Option Addr} {l c : Nat} (hs : Sl S κ k (a, l, c)) {a2 : Option Addr} {m c2 : Nat} (hs2 : Sl S κ k (a2, m, c2)) (hlen : (l + m) * bytes ≤ 140737488355328) :
    ∃ a' c' w' κ', Sem.run P (Builtin.append_ #[t, t] ty #[.slice a l c, .slice a2 m c2]) w = .ok (.slice a' (l + m) c') w' ∧ Ty S O κ' w' ∧ Sl S κ' k (a', l + m, c') ∧ Pk (· = k) κ κ' w w' := by
  rcases Sl.news h hs2 with ⟨rfl, rfl⟩ | ⟨p, news, rfl, hl, hc, hO⟩
  · obtain ⟨i, z, hi, hz, hsz, hby, hzs⟩ := H.info
    have hlc : l ≤ c := by rcases hs with hs | ⟨_, _, _, _, _, _, h3, _⟩; · cases hs; exact Nat.le_refl _
                           · exact h3
    refine ⟨a, c, w, κ, ?_, h, hs, Pk.refl _ _ _⟩
    cases a <;> simp [Builtin.append_, run_underlying H.under, sizeOf, typeInfo, hi, hlc, Builtin.lenOf, Builtin.firstCells, storeCells]
  · exact Sl.appendC hM H h hs p m c2 news hl hc hO hlen
theorem Sl.lc {a : Option Addr} {l c : Nat} (hs : Sl S κ k (a, l, c)) : l ≤ c := by
  rcases hs with hs | ⟨_, _, _, _, _, _, h3, _⟩
  · cases hs; exact Nat.le_refl _
  · exact h3
theorem Pk.exts {X Y : ι → Prop} (p : Pk Y κ κ' w w') (h : Ty S O κ w) (x : Ext w w') : Pk X κ κ' w w' := ⟨p.os, p.tape, p.output, p.size, p.block, p.free, p.le, fun b _ _ _ e _ => x.block b (h.lt e)⟩
theorem Sl.copy {P : Program} {t ty bytes : Nat} (hM : OkM O) (H : SlT P t (S.ty k) (S.sz k) bytes) {w0 : World} (h0 : Ty S O κ w0) (hx0 : Ext w0 w) {b : Nat} (hb : Blk w b #[] (S.ty k)) (hb0 : w0.heap.size ≤ b) {a2 : Option Addr} {m c2 : Nat} (hs2 : Sl S κ k (a2, m, c2)) (hlen : m * bytes ≤ 140737488355328) :
    ∃ a' c' w' κ', Sem.run P (Builtin.append_ #[t, t] ty #[.slice (some ⟨b, 0, none⟩) 0 0, .slice a2 m c2]) w = .ok (.slice a' m c') w' ∧ Ty S O κ' w' ∧ Sl S κ' k (a', m, c') ∧ Ext w w' ∧ ∀ X, Pk X κ κ' w0 w' := by
  obtain ⟨i, z, hi, hz, hsz, hby, hzs⟩ := H.info
  have h := h0.ext hx0
  have h0' := h0
  have hn : κ b = none := h0.none_top hb0
  have nothing : ∀ x : Option Addr, Sem.run P (Builtin.append_ #[t, t] ty #[.slice (some ⟨b, 0, none⟩) 0 0, .slice x 0 c2]) w = .ok (.slice (some ⟨b, 0, none⟩) 0 0) w →
      ∃ a' c' w' κ', Sem.run P (Builtin.append_ #[t, t] ty #[.slice (some ⟨b, 0, none⟩) 0 0, .slice x 0 c2]) w = .ok (.slice a' 0 c') w' ∧ Ty S O κ' w' ∧ Sl S κ' k (a', 0, c') ∧ Ext w w' ∧ ∀ X, Pk X κ κ' w0 w' := by
    intro x hr
    exact ⟨_, _, w, κ.put b k 0 0, hr, h.put hM hb hn (Nat.le_refl _) (fun i v hi => by omega), .inr ⟨b, 0, 0, 0, by simp, Ka.put_same _ _ _ _ _, Nat.le_refl _, by simp, by simp⟩, Ext.refl _, fun X => (Pk.ofExt X h0 hx0).put hb0 hn⟩
  rcases Sl.news h hs2 with ⟨rfl, rfl⟩ | ⟨p, news, rfl, hl, hc, hO⟩
  · refine nothing none ?_
    simp [Builtin.append_, run_underlying H.under, sizeOf, typeInfo, hi, Builtin.lenOf, Builtin.firstCells, storeCells]
  · rcases Nat.eq_zero_or_pos m with h0 | h0
    · subst h0
      refine nothing _ ?_
      exact run_append_room_cells (P := P) w t ty (S.ty k) i H.under hi b 0 0 0 p 0 c2 [] (by simp) (fun j u hj => by simp at hj) (fun u hu => by cases hu) (Nat.le_refl _) (fun j hj => by simp at hj) (fun j hj => by simp at hj)
    · have h63 : 0 + m ≤ maxLen := by
        have := Nat.le_mul_of_pos_right m H.posB
        simp only [maxLen]; omega
      obtain ⟨v', w', q1, q2, q3⟩ := run_append_arg_grows (P := P) w t ty (S.ty k) i z (S.sz k) bytes H.under hi hz hsz hby hzs H.pos ⟨b, 0, none⟩ 0 0 [] (by simp) (fun j u hj => by simp at hj) p m c2 news hl hc (by omega) h63 (by simpa using hlen)
      obtain ⟨⟨a', l', c'⟩, κ', rfl, e2, e3, e4, e5⟩ := Sl.ofOwn hM h q2 q3 (by simpa using hO)
      rw [Nat.zero_add] at e4; dsimp only at e4; subst e4
      have hx : Ext w w' := Ext.grown q3 rfl
      exact ⟨a', c', w', κ', q1, e2, e3, hx, fun X => (Pk.ofExt X h0' hx0).trans (e5.exts h hx)⟩
def subK (κ : Ka ι) (P : ι → Bool) (w : World) : World := { w with heap := w.heap.mapIdx fun i o => match κ i with | some (k, _, _) => if P k then o else .cells #[] 0 (0, 0) | none => .cells #[] 0 (0, 0) }
theorem subK_cell {P : ι → Bool} {b n u : Nat} (e : κ b = some (k, n, u)) (hP : P k = true) (i : Nat) : (subK κ P w).cell? ⟨b, i, none⟩ = w.cell? ⟨b, i, none⟩ := by
  have : (subK κ P w).heap[b]? = w.heap[b]? := by
    simp only [subK, Array.getElem?_mapIdx]
    cases w.heap[b]? with
    | none => rfl
    | some o => simp [e, hP]
  exact World.cell?_of_block this
theorem subK_cel {P : ι → Bool} (h : ∀ b k n u, κ b = some (k, n, u) → P k = true → b < w.heap.size → w'.heap[b]? = w.heap[b]?) : Cel (subK κ P w) w' := fun p v hp => by
  have hlt : p.block < w.heap.size := by have := block_lt_of_cell hp; simpa [subK] using this
  have hget : (subK κ P w).heap[p.block]? = some (match κ p.block with | some (k, _, _) => if P k then w.heap[p.block] else .cells #[] 0 (0, 0) | none => .cells #[] 0 (0, 0)) := by
    simp only [subK, Array.getElem?_mapIdx, Array.getElem?_eq_getElem hlt]; rfl
  cases e : κ p.block with
  | none => rw [e] at hget; unfold World.cell? at hp; rw [hget] at hp; simp at hp
  | some x =>
    obtain ⟨k, n, u⟩ := x
    rw [e] at hget
    cases hP : P k with
    | false => simp only [hP] at hget; unfold World.cell? at hp; rw [hget] at hp; simp at hp
    | true =>
      simp only [hP, if_true] at hget
      have e2 : w'.heap[p.block]? = (subK κ P w).heap[p.block]? := by rw [h _ _ _ _ e hP hlt, hget, Array.getElem?_eq_getElem hlt]
      rw [World.cell?_of_block e2]; exact hp
theorem Pk.celK {X : ι → Prop} {P : ι → Bool} (p : Pk X κ κ' w w') (hX : ∀ k, P k = true → ¬ X k) : Cel (subK κ P w) w' := subK_cel fun b k n u e hP _ => p.keep b k n u e (hX k hP)
theorem Sl.pushB {P : Program} {t ty bytes : Nat} (hM : OkM O) (H : SlT P t (S.ty k) (S.sz k) bytes) (h : Ty S O κ w) {a : Option Addr} {l c : Nat} (hs : Sl S κ k (a, l, c)) {b tb : Nat} {cs : Array Value} (hB : Blk w b cs tb) (hcs : cs.size = S.sz k)
    (hO : ∀ j v, cs[j]? = some v → O κ k j v) (hlen : (l + 1) * bytes ≤ 140737488355328) :
    ∃ a' c' w' κ', Sem.run P (Builtin.append_ #[t, t] ty #[.slice a l c, .slice (some ⟨b, 0, none⟩) 1 1]) w = .ok (.slice a' (l + 1) c') w' ∧ Ty S O κ' w' ∧ Sl S κ' k (a', l + 1, c') ∧ Pk (· = k) κ κ' w w' :=
  Sl.appendC (ty := ty) hM H h hs ⟨b, 0, none⟩ 1 1 cs.toList (by simp [hcs]) (fun j u hj => by rw [add_mk, Nat.zero_add, hB.cell, ← Array.getElem?_toList]; exact hj)
    (fun j u hj => by
      have hj2 : j < S.sz k := by rw [← hcs, ← Array.length_toList]; exact (List.getElem?_eq_some_iff.1 hj).1
      rw [Nat.mod_eq_of_lt hj2]; exact hO j u (by rw [← Array.getElem?_toList]; exact hj)) hlen
end
end Go.V
