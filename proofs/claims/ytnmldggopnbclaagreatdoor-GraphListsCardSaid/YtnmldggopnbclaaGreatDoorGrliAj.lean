/- A part of the proof: plain forms of functions and laws about them. -/
import Derived.Test.YtnmldggopnbclaaGreatDoorGrliAi
import Derived.Maps.AppendAt
import Derived.Laws.OwnMore
namespace Go.V
open Go.RowKit (Below)
structure SlT (P : Program) (t e : TypeId) (sz bytes : Nat) : Prop where
 under : P.underlying t = some (.slice e)
 info : ∃ i z, P.info? e = some i ∧ i.zero = some z ∧ i.size = sz ∧ i.bytes = bytes ∧ z.cells.size = sz
 pos : 0 < sz
 posB : 0 < bytes
def OwnR {α : Type} (base : Nat) (e : TypeId) (sz : Nat) (enc : α → List Value) (w : World) (a : Option Addr) (l c : Nat) (xs : List α) : Prop :=
 l = xs.length ∧ w.ownsRow base e sz (.slice a l c) xs.length (xs.flatMap enc)
theorem OwnR.nil {α : Type} (base : Nat) (e : TypeId) (sz : Nat) (enc : α → List Value) (w : World) : OwnR base e sz enc w none 0 0 ([] : List α) :=
 ⟨rfl, World.ownsRow_nil _ _ _ _⟩
theorem grown_below {base : Nat} {w w' : World} {row : Option Nat} (hg : w.grownBy w' row) (h : ∀ k, row = some k → base ≤ k) (hb : base ≤ w.heap.size) : Below base w w' :=
 ⟨hg.os, hg.tape, hg.output, hg.size, fun k hk => hg.block k (by omega) (fun e => by have := h k e.symm; omega)⟩
theorem OwnR.lt {α : Type} {base : Nat} {e : TypeId} {sz : Nat} {enc : α → List Value} {w : World} {a : Option Addr} {l c : Nat} {xs : List α} (h : OwnR base e sz enc w a l c xs) :
  ∀ k, (Value.slice a l c).ownBlock = some k → base ≤ k ∧ k < w.heap.size := World.ownsRow.lt h.2
theorem enc_get {α : Type} {enc : α → List Value} {sz : Nat} (he : ∀ x, (enc x).length = sz) {xs : List α} {i j : Nat} {x : α} (hi : xs[i]? = some x) (hj : j < sz) : (xs.flatMap enc)[i * sz + j]? = (enc x)[j]? := by
 induction xs generalizing i with
 | nil => simp at hi
 | cons y ys ih =>
  rw [List.flatMap_cons]
  cases i with
  | zero => simp at hi; subst hi; rw [List.getElem?_append_left (by rw [he]; omega)]; simp
  | succ i =>
   simp at hi
   have h1 : (i + 1) * sz + j = (enc y).length + (i * sz + j) := by rw [he, Nat.succ_mul]; omega
   rw [h1, List.getElem?_append_right (by omega), Nat.add_sub_cancel_left]
   exact ih hi
theorem enc_len {α : Type} {enc : α → List Value} {sz : Nat} (he : ∀ x, (enc x).length = sz) (xs : List α) : (xs.flatMap enc).length = xs.length * sz := by
 induction xs with
 | nil => simp
 | cons y ys ih => rw [List.flatMap_cons, List.length_append, he, ih, List.length_cons, Nat.succ_mul]; omega
theorem add_mk0 (a : Addr) : a.add 0 = a := by unfold Addr.add; split <;> simp_all
theorem OwnR.cellAt {α : Type} {base : Nat} {e : TypeId} {sz : Nat} {enc : α → List Value} {w : World} {a : Option Addr} {l c : Nat} {xs : List α} (h : OwnR base e sz enc w a l c xs) (he : ∀ x, (enc x).length = sz)
  {i : Nat} {x : α} (hi : xs[i]? = some x) : ∃ g, a = some ⟨g, 0, none⟩ ∧ base ≤ g ∧ g < w.heap.size ∧ ∀ j, j < sz → w.cell? ⟨g, i * sz + j, none⟩ = (enc x)[j]? := by
 have hlt : i < xs.length := (List.getElem?_eq_some_iff.1 hi).1
 obtain ⟨hl, ho⟩ := h
 subst hl
 rcases ho.2 with ⟨_, h0⟩ | ⟨g, cap, cur, hv, hbg, hg, _⟩
 ·omega
 ·simp only [Value.slice.injEq, true_and] at hv
  obtain ⟨rfl, rfl⟩ := hv
  refine ⟨g, rfl, hbg, (Array.getElem?_eq_some_iff.1 hg).1, fun j hj => ?_⟩
  rw [World.ownsRow.cellAt ho _ (by have : (i + 1) * sz ≤ xs.length * sz := Nat.mul_le_mul_right _ hlt; rw [Nat.succ_mul] at this; omega), enc_get he hi hj]
theorem OwnR.rows {α β : Type} {base : Nat} {e : TypeId} {sz : Nat} {enc : α → List Value} {w : World} {a : Option Addr} {l c : Nat} {xs : List α} (h : OwnR base e sz enc w a l c xs) (he : ∀ x, (enc x).length = sz)
  (R : World → Cells → β → Prop) {ys : List β} (hl : ys.length = xs.length) (hR : ∀ (f : Nat → Option Value) (i : Nat) (x : α) (y : β), xs[i]? = some x → ys[i]? = some y → (∀ j, j < sz → f j = (enc x)[j]?) → R w f y) : Rows sz R w a l ys := by
 refine ⟨h.1.trans hl.symm, ?_⟩
 rcases Nat.eq_zero_or_pos xs.length with h0 | hp
 ·left; rw [h0] at hl; exact List.length_eq_zero_iff.1 hl
 ·right
  obtain ⟨g, ha, _⟩ := h.cellAt he (List.getElem?_eq_getElem hp)
  refine ⟨g, 0, ha, fun i y hy => ?_⟩
  have hi : i < xs.length := by rw [← hl]; exact (List.getElem?_eq_some_iff.1 hy).1
  obtain ⟨g', ha', _, _, hc⟩ := h.cellAt he (List.getElem?_eq_getElem hi)
  rw [ha] at ha'; simp at ha'; subst ha'
  exact hR _ i _ y (List.getElem?_eq_getElem hi) hy (fun j hj => by simp only [Nat.zero_add]; exact hc j hj)
theorem OwnR.kept {α : Type} {base : Nat} {e : TypeId} {sz : Nat} {enc : α → List Value} {w w' : World} {a : Option Addr} {l c : Nat} {xs : List α} (h : OwnR base e sz enc w a l c xs)
  (hb : ∀ k, (Value.slice a l c).ownBlock = some k → w'.heap[k]? = w.heap[k]?) : OwnR base e sz enc w' a l c xs := by
 refine ⟨h.1, h.2.1, ?_⟩
 rcases h.2.2 with hn | ⟨g, cap, cur, hv, hbg, hgg, rest⟩
 ·exact .inl hn
 ·refine .inr ⟨g, cap, cur, hv, hbg, ?_, rest⟩
  rw [hb g (by rw [hv]; rfl)]; exact hgg
theorem OwnR.ext {α : Type} {base : Nat} {e : TypeId} {sz : Nat} {enc : α → List Value} {w w' : World} {a : Option Addr} {l c : Nat} {xs : List α} (h : OwnR base e sz enc w a l c xs) (k : Ext w w') : OwnR base e sz enc w' a l c xs :=
 h.kept fun b hb => k.block b (h.lt b hb).2
theorem OwnR.mono {α : Type} {base base' : Nat} {e : TypeId} {sz : Nat} {enc : α → List Value} {w : World} {a : Option Addr} {l c : Nat} {xs : List α} (h : OwnR base e sz enc w a l c xs) (hb : base' ≤ base) : OwnR base' e sz enc w a l c xs :=
 ⟨h.1, h.2.1, h.2.2.imp id fun ⟨g, cap, cur, h1, h2, h3⟩ => ⟨g, cap, cur, h1, Nat.le_trans hb h2, h3⟩⟩
theorem OwnR.appendN {α : Type} {P : Program} {t ty e : TypeId} {sz bytes base : Nat} {enc : α → List Value} {w : World} {a : Option Addr} {l c : Nat} {xs ys : List α} (H : SlT P t e sz bytes) (h : OwnR base e sz enc w a l c xs)
  (hb : base ≤ w.heap.size) (he : ∀ x, (enc x).length = sz) (h1 : ∀ x u, u ∈ enc x → u.oneCell' = true) (a2 : Addr) (c2 : Nat)
  (hc : ∀ j u, (ys.flatMap enc)[j]? = some u → w.cell? (a2.add j) = some u) (hlen : (xs.length + ys.length) * bytes ≤ 140737488355328) :
  ∃ a' c' w', Sem.run P (Builtin.append_ #[t, t] ty #[.slice a l c, .slice (some a2) ys.length c2]) w = .ok (.slice a' (xs.length + ys.length) c') w' ∧ OwnR base e sz enc w' a' (xs.length + ys.length) c' (xs ++ ys) ∧
   w.grownBy w' (Value.slice a l c).ownBlock ∧ ((Value.slice a' (xs.length + ys.length) c').ownBlock = (Value.slice a l c).ownBlock ∨ (Value.slice a' (xs.length + ys.length) c').ownBlock = some w.heap.size) := by
 obtain ⟨i, z, hi, hz, hsz, hby, hzs⟩ := H.info
 obtain ⟨rfl, ho⟩ := h
 have h63 : xs.length + ys.length ≤ maxLen := by
  have := Nat.le_mul_of_pos_right (xs.length + ys.length) H.posB
  simp only [maxLen]; omega
 obtain ⟨v', w', hr, h2, h3, h4, h5⟩ := run_append_own_at (P := P) w base t ty e i z sz bytes H.under hi hz hsz hby hzs H.pos _ _ _ ho a2 ys.length c2 (ys.flatMap enc) (enc_len he ys) hc
  (fun u hu => by obtain ⟨x, _, hx⟩ := List.mem_flatMap.1 hu; exact h1 x u hx) h63 hlen hb
 have h2' : w'.ownsRow base e sz v' (xs ++ ys).length ((xs ++ ys).flatMap enc) := by rw [List.length_append, List.flatMap_append]; exact h2
 have hform : ∃ a' c', v' = .slice a' (xs.length + ys.length) c' := by
  rcases h2.2 with ⟨rfl, h0⟩ | ⟨g, cap, cur, rfl, _⟩
  ·exact ⟨none, 0, by rw [h0]⟩
  ·exact ⟨_, _, rfl⟩
 obtain ⟨a', c', rfl⟩ := hform
 exact ⟨a', c', w', hr, ⟨by simp, h2'⟩, h3, h5⟩
theorem OwnR.push {α : Type} {P : Program} {t ty e te : TypeId} {sz bytes base : Nat} {enc : α → List Value} {w : World} {a : Option Addr} {l c : Nat} {xs : List α} (x : α) (H : SlT P t e sz bytes) (h : OwnR base e sz enc w a l c xs)
  (hb : base ≤ w.heap.size) (he : ∀ x, (enc x).length = sz) (h1 : ∀ x u, u ∈ enc x → u.oneCell' = true) (hlen : (xs.length + 1) * bytes ≤ 140737488355328) {cs : Array Value} (hcs : cs = (enc x).toArray)
  {F : Option Addr → Nat → Nat → World → Prop}
  (k : ∀ a' c' w', OwnR base e sz enc w' a' (xs.length + 1) c' (xs ++ [x]) → w.grownBy w' (Value.slice a l c).ownBlock →
   ((Value.slice a' (xs.length + 1) c').ownBlock = (Value.slice a l c).ownBlock ∨ ∃ g, (Value.slice a' (xs.length + 1) c').ownBlock = some g ∧ w.heap.size ≤ g) → F a' (xs.length + 1) c' w') :
  AllocK w cs te fun b w1 => ∃ a' l' c' w2, Sem.run P (Builtin.append_ #[t, t] ty #[.slice a l c, .slice (some b) 1 1]) w1 = .ok (.slice a' l' c') w2 ∧ F a' l' c' w2 := by
 refine AllocK.mk fun b w1 hb1 hblk hx => ?_
 have ho := h.ext hx
 obtain ⟨a', c', w', hr, h2, h3, h4⟩ := OwnR.appendN (ty := ty) H (xs := xs) (ys := [x]) ho (Nat.le_trans hb hx.size) he h1 ⟨b, 0, none⟩ 1 (fun j u hu => by
  rw [add_mk, Nat.zero_add, hblk.cell, hcs]; simpa using hu) hlen
 refine ⟨a', _, c', w', hr, k a' c' w' h2 ⟨h3.os.trans hx.os, h3.tape.trans hx.tape, h3.output.trans hx.output, Nat.le_trans hx.size h3.size, fun i hi hne => (h3.block i (Nat.lt_of_lt_of_le hi hx.size) hne).trans (hx.block i hi)⟩ ?_⟩
 rcases h4 with h4 | h4
 ·exact .inl h4
 ·exact .inr ⟨_, h4, hx.size⟩
theorem OwnR.below {α : Type} {base : Nat} {e : TypeId} {sz : Nat} {enc : α → List Value} {w w' : World} {a : Option Addr} {l c : Nat} {xs : List α} (h : OwnR base e sz enc w a l c xs) (hb : base ≤ w.heap.size)
  (hg : w.grownBy w' (Value.slice a l c).ownBlock) : Below base w w' := grown_below hg (fun k hk => (h.lt k hk).1) hb
theorem OwnR.set {α : Type} {base : Nat} {e : TypeId} {sz : Nat} {enc : α → List Value} {w : World} {g l c : Nat} {xs ys : List α} (h : OwnR base e sz enc w (some ⟨g, 0, none⟩) l c xs) (i : Nat) (v : Value) (hi : i < xs.length * sz)
  (hl : ys.length = xs.length) (hys : (xs.flatMap enc).set i v = ys.flatMap enc) {F : World → Prop}
  (k : ∀ w', OwnR base e sz enc w' (some ⟨g, 0, none⟩) l c ys → But g w w' → F w') : SetK w ⟨g, i, none⟩ v F := by
 obtain ⟨rfl, ho⟩ := h
 rcases ho.2 with ⟨h0, _⟩ | ⟨g', cap, cur, hv, hbg, hg, h1, h2, h3, h4⟩
 ·simp at h0
 ·simp only [Value.slice.injEq, Option.some.injEq, Addr.mk.injEq, and_true, true_and] at hv
  obtain ⟨rfl, rfl⟩ := hv
  have hi' : i < cur.size := by rw [h3]; exact Nat.lt_of_lt_of_le hi (Nat.mul_le_mul_right _ h1)
  refine SetK.mk (show Blk w g cur e from hg) hi' fun w' hblk hbut => k w' ⟨hl.symm, ?_⟩ hbut
  refine ⟨?_, .inr ⟨g, c, cur.setIfInBounds i v, by rw [hl], hbg, hblk, by rw [hl]; exact h1, h2, by simpa using h3, ?_⟩⟩
  ·rw [← hys, List.length_set, ho.1, hl]
  ·rw [Array.toList_setIfInBounds, hl, List.take_set, h4, hys]
def eP (x : Int × Int) : List Value := [.int .i64 x.1, .int .i64 x.2]
def eI (x : Int) : List Value := [.int .i64 x]
def eS (x : Option Addr × Nat × Nat) : List Value := [.slice x.1 x.2.1 x.2.2]
theorem eP_len (x : Int × Int) : (eP x).length = 2 := rfl
theorem eI_len (x : Int) : (eI x).length = 1 := rfl
theorem eS_len (x : Option Addr × Nat × Nat) : (eS x).length = 1 := rfl
theorem eI_one (x : Int) (u : Value) (h : u ∈ eI x) : u.oneCell' = true := by simp [eI] at h; subst h; rfl
theorem OwnR.dom {base : Nat} {e : TypeId} {w : World} {a : Option Addr} {l c : Nat} {d : List (Int × Int)} (h : OwnR base e 2 eP w a l c d) : Dom w a l d :=
 h.rows eP_len RPair rfl fun f i x y hx hy hf => by
  rw [hx] at hy; cases hy
  exact ⟨by rw [hf 0 (by omega)]; rfl, by rw [hf 1 (by omega)]; rfl⟩
theorem OwnR.ints {base : Nat} {e : TypeId} {w : World} {a : Option Addr} {l c : Nat} {d : List Int} (h : OwnR base e 1 eI w a l c d) : Ints w a l d :=
 h.rows eI_len RInt rfl fun f i x y hx hy hf => by
  rw [hx] at hy; cases hy
  show f 0 = _; rw [hf 0 (by omega)]; rfl
def slOk (P : Program) (t e : TypeId) (sz bytes : Nat) : Bool :=
 (match P.underlying t with | some (.slice e') => e' == e | _ => false) &&
 (match P.info? e with | some i => (match i.zero with | some z => i.size == sz && i.bytes == bytes && z.cells.size == sz | none => false) | none => false) && decide (0 < sz) && decide (0 < bytes)
theorem slOk.ok {P : Program} {t e : TypeId} {sz bytes : Nat} (h : slOk P t e sz bytes = true) : SlT P t e sz bytes := by
 simp only [slOk, Bool.and_eq_true, decide_eq_true_eq] at h
 obtain ⟨⟨⟨h1, h2⟩, h3⟩, h4⟩ := h
 refine ⟨?_, ?_, h3, h4⟩
 ·split at h1
  ·rename_i e' he; rw [he]; simp at h1; rw [h1]
  ·cases h1
 ·split at h2
  ·rename_i i hi
   split at h2
   ·rename_i z hz
    simp at h2
    exact ⟨i, z, hi, hz, h2.1.1, h2.1.2, h2.2⟩
   ·cases h2
  ·cases h2
end Go.V
