/- A part of the proof: plain forms of functions and laws about them. -/
import Derived.Test.YtbiamhoonhjodabGreatDoorGrorAj
namespace Go.V
open Go.RowKit (Below)
theorem DrewK.mk {w : World} {F : World → Prop} (h : ∀ w', Ext w w' → F w') : DrewK w F := h _ (Ext.drew w)
theorem run_append_none {P : Program} (w : World) {t ty e : TypeId} {sz bytes : Nat} (H : SlT P t e sz bytes) (c : Nat) :
    Sem.run P (Builtin.append_ #[t, t] ty #[.slice none 0 0, .slice none 0 c]) w = .ok (.slice none 0 0) w := by
  obtain ⟨i, z, hi, _⟩ := H.info
  simp [Builtin.append_, run_underlying H.under, sizeOf, typeInfo, hi, Builtin.lenOf, Builtin.firstCells]
theorem copyRows {α : Type} {P : Program} {t ty e : TypeId} {sz bytes : Nat} {enc : α → List Value} {R : World → Cells → α → Prop} {w : World} {a : Option Addr} {l c : Nat} {xs : List α} (H : SlT P t e sz bytes) (h : Rows sz R w a l xs)
    (he : ∀ x, (enc x).length = sz) (h1 : ∀ x u, u ∈ enc x → u.oneCell' = true) (hR : ∀ f x, R w f x → ∀ j, j < sz → f j = (enc x)[j]?) (hlen : xs.length * bytes ≤ 140737488355328) :
    ∃ a' c' w', Sem.run P (Builtin.append_ #[t, t] ty #[.slice none 0 0, .slice a l c]) w = .ok (.slice a' l c') w' ∧ OwnR w.heap.size e sz enc w' a' l c' xs ∧ Ext w w' := by
  obtain ⟨rfl, hx⟩ := h
  cases a with
  | none =>
    rcases hx with rfl | ⟨b, o, ha, _⟩
    · exact ⟨none, 0, w, run_append_none w H c, OwnR.nil _ _ _ _ _, Ext.refl w⟩
    · cases ha
  | some p =>
    have hc : ∀ j u, (xs.flatMap enc)[j]? = some u → w.cell? (p.add j) = some u := by
      intro j u hu
      rcases hx with rfl | ⟨b, o, ha, hx⟩
      · simp at hu
      · simp at ha; subst ha
        rw [add_mk]
        have hj : j < xs.length * sz := by rw [← enc_len he]; exact (List.getElem?_eq_some_iff.1 hu).1
        have hi : j / sz < xs.length := Nat.div_lt_of_lt_mul (by rw [Nat.mul_comm]; exact hj)
        have hm : j % sz < sz := Nat.mod_lt _ H.pos
        have hjj : j / sz * sz + j % sz = j := Nat.div_add_mod' j sz
        have := hR _ _ (hx (j / sz) _ (List.getElem?_eq_getElem hi)) (j % sz) hm
        rw [Nat.add_assoc, hjj] at this
        rw [this, ← enc_get he (List.getElem?_eq_getElem hi) hm, hjj]; exact hu
    obtain ⟨a', c', w', hr, ho, hg, _⟩ := OwnR.appendN (ty := ty) (xs := []) (ys := xs) (a := none) (l := 0) (c := 0) H (OwnR.nil w.heap.size e sz enc w) (Nat.le_refl _) he h1 p c hc (by simpa using hlen)
    simp only [List.length_nil, Nat.zero_add, List.nil_append] at hr ho
    exact ⟨a', c', w', hr, ho, Ext.grown hg rfl⟩
def RowsO {β : Type} (base : Nat) (e : TypeId) (sz : Nat) (R : World → Cells → β → Prop) (w : World) (a : Option Addr) (l c : Nat) (ds : List (List β)) : Prop :=
  ∃ S : List (Option Addr × Nat × Nat), S.length = ds.length ∧ OwnR base e 1 eS w a l c S ∧
    ∀ (i : Nat) (s : Option Addr × Nat × Nat) (d : List β), S[i]? = some s → ds[i]? = some d → Rows sz R w s.1 s.2.1 d ∧ (d = [] ∨ ∀ p, s.1 = some p → some p.block ≠ (Value.slice a l c).ownBlock)
theorem RowsO.nil {β : Type} (base : Nat) (e : TypeId) (sz : Nat) (R : World → Cells → β → Prop) (w : World) : RowsO base e sz R w none 0 0 ([] : List (List β)) :=
  ⟨[], rfl, OwnR.nil _ _ _ _ _, by simp⟩
theorem RowsO.len {β : Type} {base : Nat} {e : TypeId} {sz : Nat} {R : World → Cells → β → Prop} {w : World} {a : Option Addr} {l c : Nat} {ds : List (List β)} (h : RowsO base e sz R w a l c ds) : l = ds.length := by
  obtain ⟨S, h1, h2, _⟩ := h; rw [h2.1, h1]
theorem RowsO.ext {β : Type} {base : Nat} {e : TypeId} {sz : Nat} {R : World → Cells → β → Prop} (hR : Mono R) {w w' : World} {a : Option Addr} {l c : Nat} {ds : List (List β)} (h : RowsO base e sz R w a l c ds) (k : Ext w w') : RowsO base e sz R w' a l c ds := by
  obtain ⟨S, h1, h2, h3⟩ := h
  exact ⟨S, h1, h2.ext k, fun i s d hs hd => ⟨(h3 i s d hs hd).1.ext hR k, (h3 i s d hs hd).2⟩⟩
theorem RowsO.doms {β : Type} {base : Nat} {e : TypeId} {sz : Nat} {R : World → Cells → β → Prop} {w : World} {a : Option Addr} {l c : Nat} {ds : List (List β)} (h : RowsO base e sz R w a l c ds) : Rows 1 (RSl sz R) w a l ds := by
  obtain ⟨S, h1, h2, h3⟩ := h
  refine h2.rows eS_len (RSl sz R) h1.symm fun f i s d hs hd hf => ⟨s.1, s.2.1, s.2.2, ?_, (h3 i s d hs hd).1⟩
  rw [hf 0 (by omega)]; rfl
theorem RowsO.get {β : Type} {base : Nat} {e : TypeId} {sz : Nat} {R : World → Cells → β → Prop} {w : World} {a : Option Addr} {l c : Nat} {ds : List (List β)} (h : RowsO base e sz R w a l c ds) {i : Nat} (hi : i < ds.length) :
    ∃ (g : Nat) (s : Option Addr × Nat × Nat), a = some ⟨g, 0, none⟩ ∧ base ≤ g ∧ g < w.heap.size ∧ w.cell? ⟨g, i, none⟩ = some (.slice s.1 s.2.1 s.2.2) ∧ Rows sz R w s.1 s.2.1 ds[i] := by
  obtain ⟨S, h1, h2, h3⟩ := h
  have hs : S[i]? = some S[i] := List.getElem?_eq_getElem (by omega)
  obtain ⟨g, ha, hb, hg, hc⟩ := h2.cellAt eS_len hs
  refine ⟨g, S[i], ha, hb, hg, ?_, (h3 i _ _ hs (List.getElem?_eq_getElem hi)).1⟩
  have := hc 0 (by omega)
  rw [Nat.mul_one, Nat.add_zero] at this
  rw [this]; rfl
theorem Rows.block {α : Type} {sz : Nat} {R : World → Cells → α → Prop} (hR : ∀ w w' f x, R w f x → R w' f x) {w w' : World} {a : Option Addr} {l : Nat} {xs : List α} (h : Rows sz R w a l xs)
    (k : xs = [] ∨ ∀ p, a = some p → w'.heap[p.block]? = w.heap[p.block]?) : Rows sz R w' a l xs := by
  obtain ⟨h1, h2⟩ := h
  refine ⟨h1, ?_⟩
  rcases k with k | k
  · exact .inl k
  · refine h2.imp id ?_
    rintro ⟨b, o, rfl, hx⟩
    refine ⟨b, o, rfl, fun i x hi => ?_⟩
    have e1 : (fun j => w'.cell? ⟨b, o + i * sz + j, none⟩) = fun j => w.cell? ⟨b, o + i * sz + j, none⟩ := by
      funext j; exact World.cell?_of_block (k ⟨b, o, none⟩ rfl)
    rw [e1]; exact hR w w' _ _ (hx i x hi)
theorem RPair.leaf : ∀ (w w' : World) f x, RPair w f x → RPair w' f x := fun _ _ _ _ h => h
theorem RInt.leaf : ∀ (w w' : World) f x, RInt w f x → RInt w' f x := fun _ _ _ _ h => h
theorem RowsO.set {β : Type} {base : Nat} {e : TypeId} {sz : Nat} {R : World → Cells → β → Prop} (hR : ∀ w w' f x, R w f x → R w' f x) {w : World} {g l c : Nat} {ds : List (List β)}
    (h : RowsO base e sz R w (some ⟨g, 0, none⟩) l c ds) {i : Nat} (hi : i < ds.length) {a' : Option Addr} {l' c' : Nat} {d : List β} (hd : Rows sz R w a' l' d) (hne : d = [] ∨ ∀ p, a' = some p → p.block ≠ g) {F : World → Prop}
    (k : ∀ w', RowsO base e sz R w' (some ⟨g, 0, none⟩) l c (ds.set i d) → But g w w' → F w') : SetK w ⟨g, i, none⟩ (.slice a' l' c') F := by
  obtain ⟨S, h1, h2, h3⟩ := h
  refine OwnR.set (ys := S.set i (a', l', c')) h2 i _ (by omega) (by simp) ?_ fun w' ho hbut => k w' ⟨S.set i (a', l', c'), by simp [h1], ho, fun j s d' hs hd' => ?_⟩ hbut
  · have e1 : ∀ X : List (Option Addr × Nat × Nat), X.flatMap eS = X.map fun s => Value.slice s.1 s.2.1 s.2.2 := by
      intro X; induction X with
      | nil => rfl
      | cons x xs ih => rw [List.flatMap_cons, ih]; rfl
    rw [e1, e1, List.map_set]
  · rw [List.getElem?_set] at hs hd'
    by_cases hij : i = j
    · subst hij
      rw [if_pos rfl, if_pos (by omega)] at hs
      rw [if_pos rfl, if_pos (by omega)] at hd'
      cases hs; cases hd'
      refine ⟨hd.block hR (hne.imp id fun hh p hp => hbut.block _ (hh p hp)), hne.imp id fun hh p hp => ?_⟩
      simp only [Value.ownBlock, ne_eq, Option.some.injEq]; exact hh p hp
    · rw [if_neg hij] at hs hd'
      obtain ⟨h4, h5⟩ := h3 j s d' hs hd'
      refine ⟨h4.block hR (h5.imp id fun hh p hp => hbut.block _ (fun e => hh p hp (by rw [← e]; rfl))), h5⟩
theorem OwnR.apart {α : Type} {base : Nat} {e : TypeId} {sz : Nat} {enc : α → List Value} {w : World} {a : Option Addr} {l c : Nat} {xs : List α} (h : OwnR base e sz enc w a l c xs) {g : Nat} (hg : g < base) : xs = [] ∨ ∀ p, a = some p → p.block ≠ g :=
  .inr fun p hp e => by have := (h.lt p.block (by rw [hp]; rfl)).1; omega
theorem Rows.lt {α : Type} {sz : Nat} {R : World → Cells → α → Prop} (hR : ∀ w f x, R w f x → ∃ v, f 0 = some v) {w : World} {a : Option Addr} {l : Nat} {xs : List α} (h : Rows sz R w a l xs) : xs = [] ∨ ∀ p, a = some p → p.block < w.heap.size := by
  rcases h.2 with h | ⟨b, o, rfl, hx⟩
  · exact .inl h
  · cases xs with
    | nil => exact .inl rfl
    | cons x xs =>
      right
      intro p hp; cases hp
      obtain ⟨v, hv⟩ := hR _ _ _ (hx 0 x rfl)
      exact block_lt_of_cell (a := ⟨b, o + 0 * sz + 0, none⟩) hv
theorem RPair.some0 : ∀ (w : World) f x, RPair w f x → ∃ v, f 0 = some v := fun _ _ _ h => ⟨_, h.1⟩
theorem RInt.some0 : ∀ (w : World) f x, RInt w f x → ∃ v, f 0 = some v := fun _ _ _ h => ⟨_, h⟩
theorem RowsO.push {β : Type} {P : Program} {t ty e te : TypeId} {bytes base sz : Nat} {R : World → Cells → β → Prop} (_hR : Mono R) (hR2 : ∀ w w' f x, R w f x → R w' f x) (hR0 : ∀ w f x, R w f x → ∃ v, f 0 = some v) {w : World} {a : Option Addr} {l c : Nat} {ds : List (List β)}
    (H : SlT P t e 1 bytes) (h : RowsO base e sz R w a l c ds) (hb : base ≤ w.heap.size) (hlen : (ds.length + 1) * bytes ≤ 140737488355328) {a' : Option Addr} {l' c' : Nat} {d : List β} (hd : Rows sz R w a' l' d)
    (hne : d = [] ∨ ∀ p, a' = some p → some p.block ≠ (Value.slice a l c).ownBlock) {F : Option Addr → Nat → Nat → World → Prop}
    (k : ∀ a2 c2 w', RowsO base e sz R w' a2 (ds.length + 1) c2 (ds ++ [d]) → Below base w w' → F a2 (ds.length + 1) c2 w') :
    AllocK w #[.slice a' l' c'] te fun b w1 => ∃ a2 l2 c2 w2, Sem.run P (Builtin.append_ #[t, t] ty #[.slice a l c, .slice (some b) 1 1]) w1 = .ok (.slice a2 l2 c2) w2 ∧ F a2 l2 c2 w2 := by
  obtain ⟨S, h1, h2, h3⟩ := h
  refine OwnR.push (a', l', c') H h2 hb eS_len eS_one (by rw [h1]; exact hlen) rfl fun a2 c2 w' ho hg hown => ?_
  rw [h1]
  have key : ∀ (s : Option Addr × Nat × Nat) (x : List β), Rows sz R w s.1 s.2.1 x → (x = [] ∨ ∀ p, s.1 = some p → some p.block ≠ (Value.slice a l c).ownBlock) →
      Rows sz R w' s.1 s.2.1 x ∧ (x = [] ∨ ∀ p, s.1 = some p → some p.block ≠ (Value.slice a2 (S.length + 1) c2).ownBlock) := by
    intro s x hx hn
    have hlt := hx.lt hR0
    rcases hn with hn | hn
    · exact ⟨hx.block hR2 (.inl hn), .inl hn⟩
    rcases hlt with hlt | hlt
    · exact ⟨hx.block hR2 (.inl hlt), .inl hlt⟩
    refine ⟨hx.block hR2 (.inr fun p hp => hg.block _ (hlt p hp) (hn p hp)), .inr fun p hp => ?_⟩
    rcases hown with e1 | ⟨g, e1, e2⟩
    · rw [e1]; exact hn p hp
    · rw [e1]; intro e3; simp at e3; have := hlt p hp; omega
  refine k a2 c2 w' ⟨S ++ [(a', l', c')], by simp [h1], by rw [← h1]; exact ho, fun i s x hs hx => ?_⟩ (h2.below hb hg)
  rw [← h1]
  rcases Nat.lt_or_ge i S.length with hi | hi
  · rw [List.getElem?_append_left hi] at hs
    rw [List.getElem?_append_left (by omega)] at hx
    exact key s x (h3 i s x hs hx).1 (h3 i s x hs hx).2
  · rw [List.getElem?_append_right hi] at hs
    rw [List.getElem?_append_right (by omega)] at hx
    have : i - S.length = 0 := by
      have := (List.getElem?_eq_some_iff.1 hs).1
      simp at this; omega
    rw [this] at hs
    rw [← h1, this] at hx
    simp at hs hx; subst hs; subst hx
    exact key _ _ hd hne
end Go.V
