/- A part of the proof: plain forms of functions and laws about them. -/
import Derived.Test.YtkneoodgoadpaaaGreatDoorNnilA
import Derived.Maps.AppendAt
import Derived.Laws.OwnMore
import Derived.Maps.Ext
import Derived.ArgAppend
import Derived.Deep.AppendSrc
import Derived.Laws.BytesString
import Derived.Lib.AppendStr
import Derived.Lib.ConvBytes
import Derived.Lib.SliceRun
import Derived.Laws.BytesArg
import Derived.Defers
namespace Go.V
open Go.RowKit (Below)
section
variable {ρ : Rn} {m : AMem} {w : World}
def pureE (T : Tab) (op : Op) (e : Env) (m : AMem) : Option Value :=
  match op with
  | .move x | .assign x => evE e x
  | .pick c a b => match evE e c with | some (.bool t) => (match t with | true => evE e a | false => evE e b) | _ => none
  | .load t x => match evE e x, T.t t with | some (.pointer (some p)), some i => ldE i.sh m p | _, _ => none
  | .nilCheck x => match evE e x with | some (.pointer (some p)) => some (.pointer (some p)) | _ => none
  | .binOp op t x y _ => match evE e x, evE e y with | some a, some b => binE T op t a b | _, _ => none
  | .unOp op _ x => match evE e x with | some a => unE op a | none => none
  | .convert s d x => match evE e x with | some a => convE T s d a | none => none
  | .fieldAddr s x f => match evE e x with | some a => fldE T s f a | none => none
  | .field s x f => match evE e x with | some a => fieldE T s f a | none => none
  | .indexAddr t x i => match evE e x, evE e i with | some a, some b => idxE T t a b | _, _ => none
  | .index t x i => match evE e x, evE e i with | some a, some b => strIdxE T t a b | _, _ => none
  | .slice t x lo hi none => match evE e x, optE e lo, optE e hi with | some a, some l, some h => sliceE T t a l h 0 | _, _, _ => none
  | .build t ps => match evpsE e ps.toList with | some vs => buildE T t vs | none => none
  | .extract x i => match evE e x with | some (.tuple vs) => vs[i]? | _ => none
  | .call { callee := .builtin .len, args := xs, argTypes := ts } => match ts.toList, evsE e xs.toList with | [t], some [v] => lenE T t v | _, _ => none
  | .call { callee := .builtin .cap, args := xs, argTypes := ts } => match ts.toList, evsE e xs.toList with | [t], some [v] => capE T t v | _, _ => none
  | .call { callee := .builtin .min, args := xs, argTypes := _ } => match evsE e xs.toList with | some [v, u] => minE v u | _ => none
  | .call { callee := .builtin .max, args := xs, argTypes := _ } => match evsE e xs.toList with | some [v, u] => maxE v u | _ => none
  | _ => none
theorem LR.one {u : Value} {vs : List Value} (h : LR ρ [u] vs) : ∃ v, vs = [v] ∧ VR ρ u v := by
  obtain ⟨v, ys, rfl, r, k⟩ := h.inv_cons
  exact ⟨v, by rw [k.inv_nil], r⟩
theorem LR.two {u u2 : Value} {vs : List Value} (h : LR ρ [u, u2] vs) : ∃ v v2, vs = [v, v2] ∧ VR ρ u v ∧ VR ρ u2 v2 := by
  obtain ⟨v, ys, rfl, r, k⟩ := h.inv_cons
  obtain ⟨v2, rfl, r2⟩ := k.one
  exact ⟨v, v2, rfl, r, r2⟩
theorem pureE_ok {T : Tab} {op : Op} {e e' : Env} {u : Value} (h : pureE T op e m = some u) (he : ER ρ e e') (hm : MemC ρ m w) {F : Value → Prop} (k : ∀ v, VR ρ u v → F v) : pureV T op e' w F := by
  unfold pureE at h
  split at h
  · exact evE_ofV he h k
  · exact evE_ofV he h k
  · split at h
    · rename_i t hc
      refine evE_ofV he hc fun v r => ?_
      cases r
      split at h
      · exact evE_ofV he h k
      · exact evE_ofV he h k
    · cases h
  · split at h
    · rename_i p i h1 h2
      refine evE_ofV he h1 fun v r => ?_
      cases r
      show match T.t _ with | some i => ldSh i.sh w (ρ.a p) F | none => False
      rw [h2]
      exact ldE_ok hm h k
    · cases h
  · split at h
    · rename_i p h1
      cases h
      refine evE_ofV he h1 fun v r => ?_
      have r0 := r
      cases r
      exact k _ r0
    · cases h
  · split at h
    · rename_i a b h1 h2
      exact evE_ofV he h1 fun v r => evE_ofV he h2 fun v2 r2 => binE_ok h r r2 (k _ (binE_plain h))
    · cases h
  · split at h
    · rename_i a h1; exact evE_ofV he h1 fun v r => unE_ok h r k
    · cases h
  · split at h
    · rename_i a h1; exact evE_ofV he h1 fun v r => convE_ok h r k
    · cases h
  · split at h
    · rename_i a h1; exact evE_ofV he h1 fun v r => fldE_ok h r k
    · cases h
  · split at h
    · rename_i a h1; exact evE_ofV he h1 fun v r => fieldE_ok h r k
    · cases h
  · split at h
    · rename_i a b h1 h2; exact evE_ofV he h1 fun v r => evE_ofV he h2 fun v2 r2 => idxE_ok h r r2 k
    · cases h
  · split at h
    · rename_i a b h1 h2; exact evE_ofV he h1 fun v r => evE_ofV he h2 fun v2 r2 => strIdxE_ok h r r2 k
    · cases h
  · split at h
    · rename_i a l hh h1 h2 h3
      exact evE_ofV he h1 fun v r => optE_ok he h2 fun l' rl => optE_ok he h3 fun h' rh => sliceE_ok h (fun _ _ _ _ => Nat.zero_le _) r rl rh k
    · cases h
  · split at h
    · rename_i vs h1; exact evpsE_ok he h1 fun vs' p => buildE_ok h p k
    · cases h
  · split at h
    · rename_i vs h1
      refine evE_ofV he h1 fun v r => ?_
      obtain ⟨ys, rfl, rl⟩ := r.tuple_inv
      obtain ⟨v2, hv, r2⟩ := rl.get (u := u) ((Array.getElem?_toList).trans h)
      rw [Array.getElem?_toList] at hv
      show ofV _ F
      rw [hv]; exact k _ r2
    · cases h
  · split at h
    · rename_i t v h1 h2
      simp only [pureV]
      rw [h1]
      exact evsE_ok he h2 fun vs rs => by obtain ⟨v', rfl, r⟩ := rs.one; exact lenE_ok h r k
    · cases h
  · split at h
    · rename_i t v h1 h2
      simp only [pureV]
      rw [h1]
      exact evsE_ok he h2 fun vs rs => by obtain ⟨v', rfl, r⟩ := rs.one; exact capE_ok h r k
    · cases h
  · split at h
    · rename_i v u2 h2
      exact evsE_ok he h2 fun vs rs => by obtain ⟨v', v2', rfl, r, r2⟩ := rs.two; exact minE_ok h r r2 k
    · cases h
  · split at h
    · rename_i v u2 h2
      exact evsE_ok he h2 fun vs rs => by obtain ⟨v', v2', rfl, r, r2⟩ := rs.two; exact maxE_ok h r r2 k
    · cases h
  · cases h
end
end Go.V

namespace Go.V
open Go.RowKit (Below)
structure SlT (P : Program) (t e : TypeId) (sz bytes : Nat) : Prop where
  under : P.underlying t = some (.slice e)
  info : ∃ i z, P.info? e = some i ∧ i.zero = some z ∧ i.size = sz ∧ i.bytes = bytes ∧ z.cells.size = sz
  pos : 0 < sz
  posB : 0 < bytes
def OwnR {α : Type} (base : Nat) (e : TypeId) (sz : Nat) (enc : α → List Value) (w : World) (a : Option Addr) (l c : Nat) (xs : List α) : Prop :=
  l = xs.length ∧ w.ownsRow base e sz (.slice a l c) xs.length (xs.flatMap enc)
theorem OwnR.nil {α : Type} (base : Nat) (e : TypeId) (sz : Nat) (enc : α → List Value) (w : World) : OwnR base e sz enc w none 0 0 ([] : List α) :=
  ⟨rfl, World.ownsRow_nil _ _ _ _⟩
theorem grown_below {base : Nat} {w w' : World} {row : Option Nat} (hg : w.grownBy w' row) (h : ∀ k, row = some k → base ≤ k) (hb : base ≤ w.heap.size) : Below base w w' :=
  ⟨hg.os, hg.tape, hg.output, hg.size, fun k hk => hg.block k (by omega) (fun e => by have := h k e.symm; omega)⟩
theorem OwnR.lt {α : Type} {base : Nat} {e : TypeId} {sz : Nat} {enc : α → List Value} {w : World} {a : Option Addr} {l c : Nat} {xs : List α} (h : OwnR base e sz enc w a l c xs) :
    ∀ k, (Value.slice a l c).ownBlock = some k → base ≤ k ∧ k < w.heap.size := World.ownsRow.lt h.2
theorem enc_get {α : Type} {enc : α → List Value} {sz : Nat} (he : ∀ x, (enc x).length = sz) {xs : List α} {i j : Nat} {x : α} (hi : xs[i]? = some x) (hj : j < sz) : (xs.flatMap enc)[i * sz + j]? = (enc x)[j]? := by
  induction xs generalizing i with
  | nil => simp at hi
  | cons y ys ih =>
    rw [List.flatMap_cons]
    cases i with
    | zero => simp at hi; subst hi; rw [List.getElem?_append_left (by rw [he]; omega)]; simp
    | succ i =>
      simp at hi
      have h1 : (i + 1) * sz + j = (enc y).length + (i * sz + j) := by rw [he, Nat.succ_mul]; omega
      rw [h1, List.getElem?_append_right (by omega), Nat.add_sub_cancel_left]
      exact ih hi
theorem enc_len {α : Type} {enc : α → List Value} {sz : Nat} (he : ∀ x, (enc x).length = sz) (xs : List α) : (xs.flatMap enc).length = xs.length * sz := by
  induction xs with
  | nil => simp
  | cons y ys ih => rw [List.flatMap_cons, List.length_append, he, ih, List.length_cons, Nat.succ_mul]; omega
theorem add_mk0 (a : Addr) : a.add 0 = a := by unfold Addr.add; split <;> simp_all
theorem OwnR.cellAt {α : Type} {base : Nat} {e : TypeId} {sz : Nat} {enc : α → List Value} {w : World} {a : Option Addr} {l c : Nat} {xs : List α} (h : OwnR base e sz enc w a l c xs) (he : ∀ x, (enc x).length = sz)
    {i : Nat} {x : α} (hi : xs[i]? = some x) : ∃ g, a = some ⟨g, 0, none⟩ ∧ base ≤ g ∧ g < w.heap.size ∧ ∀ j, j < sz → w.cell? ⟨g, i * sz + j, none⟩ = (enc x)[j]? := by
  have hlt : i < xs.length := (List.getElem?_eq_some_iff.1 hi).1
  obtain ⟨hl, ho⟩ := h
  subst hl
  rcases ho.2 with ⟨_, h0⟩ | ⟨g, cap, cur, hv, hbg, hg, _⟩
  · omega
  · simp only [Value.slice.injEq, true_and] at hv
    obtain ⟨rfl, rfl⟩ := hv
    refine ⟨g, rfl, hbg, (Array.getElem?_eq_some_iff.1 hg).1, fun j hj => ?_⟩
    rw [World.ownsRow.cellAt ho _ (by have : (i + 1) * sz ≤ xs.length * sz := Nat.mul_le_mul_right _ hlt; rw [Nat.succ_mul] at this; omega), enc_get he hi hj]
theorem OwnR.rows {α β : Type} {base : Nat} {e : TypeId} {sz : Nat} {enc : α → List Value} {w : World} {a : Option Addr} {l c : Nat} {xs : List α} (h : OwnR base e sz enc w a l c xs) (he : ∀ x, (enc x).length = sz)
    (R : World → Cells → β → Prop) {ys : List β} (hl : ys.length = xs.length) (hR : ∀ (f : Nat → Option Value) (i : Nat) (x : α) (y : β), xs[i]? = some x → ys[i]? = some y → (∀ j, j < sz → f j = (enc x)[j]?) → R w f y) : Rows sz R w a l ys := by
  refine ⟨h.1.trans hl.symm, ?_⟩
  rcases Nat.eq_zero_or_pos xs.length with h0 | hp
  · left; rw [h0] at hl; exact List.length_eq_zero_iff.1 hl
  · right
    obtain ⟨g, ha, _⟩ := h.cellAt he (List.getElem?_eq_getElem hp)
    refine ⟨g, 0, ha, fun i y hy => ?_⟩
    have hi : i < xs.length := by rw [← hl]; exact (List.getElem?_eq_some_iff.1 hy).1
    obtain ⟨g', ha', _, _, hc⟩ := h.cellAt he (List.getElem?_eq_getElem hi)
    rw [ha] at ha'; simp at ha'; subst ha'
    exact hR _ i _ y (List.getElem?_eq_getElem hi) hy (fun j hj => by simp only [Nat.zero_add]; exact hc j hj)
theorem OwnR.kept {α : Type} {base : Nat} {e : TypeId} {sz : Nat} {enc : α → List Value} {w w' : World} {a : Option Addr} {l c : Nat} {xs : List α} (h : OwnR base e sz enc w a l c xs)
    (hb : ∀ k, (Value.slice a l c).ownBlock = some k → w'.heap[k]? = w.heap[k]?) : OwnR base e sz enc w' a l c xs := by
  refine ⟨h.1, h.2.1, ?_⟩
  rcases h.2.2 with hn | ⟨g, cap, cur, hv, hbg, hgg, rest⟩
  · exact .inl hn
  · refine .inr ⟨g, cap, cur, hv, hbg, ?_, rest⟩
    rw [hb g (by rw [hv]; rfl)]; exact hgg
theorem OwnR.ext {α : Type} {base : Nat} {e : TypeId} {sz : Nat} {enc : α → List Value} {w w' : World} {a : Option Addr} {l c : Nat} {xs : List α} (h : OwnR base e sz enc w a l c xs) (k : Ext w w') : OwnR base e sz enc w' a l c xs :=
  h.kept fun b hb => k.block b (h.lt b hb).2
theorem OwnR.mono {α : Type} {base base' : Nat} {e : TypeId} {sz : Nat} {enc : α → List Value} {w : World} {a : Option Addr} {l c : Nat} {xs : List α} (h : OwnR base e sz enc w a l c xs) (hb : base' ≤ base) : OwnR base' e sz enc w a l c xs :=
  ⟨h.1, h.2.1, h.2.2.imp id fun ⟨g, cap, cur, h1, h2, h3⟩ => ⟨g, cap, cur, h1, Nat.le_trans hb h2, h3⟩⟩
theorem OwnR.appendN {α : Type} {P : Program} {t ty e : TypeId} {sz bytes base : Nat} {enc : α → List Value} {w : World} {a : Option Addr} {l c : Nat} {xs ys : List α} (H : SlT P t e sz bytes) (h : OwnR base e sz enc w a l c xs)
    (hb : base ≤ w.heap.size) (he : ∀ x, (enc x).length = sz) (h1 : ∀ x u, u ∈ enc x → u.oneCell' = true) (a2 : Addr) (c2 : Nat)
    (hc : ∀ j u, (ys.flatMap enc)[j]? = some u → w.cell? (a2.add j) = some u) (hlen : (xs.length + ys.length) * bytes ≤ 140737488355328) :
    ∃ a' c' w', Sem.run P (Builtin.append_ #[t, t] ty #[.slice a l c, .slice (some a2) ys.length c2]) w = .ok (.slice a' (xs.length + ys.length) c') w' ∧ OwnR base e sz enc w' a' (xs.length + ys.length) c' (xs ++ ys) ∧
      w.grownBy w' (Value.slice a l c).ownBlock ∧ ((Value.slice a' (xs.length + ys.length) c').ownBlock = (Value.slice a l c).ownBlock ∨ (Value.slice a' (xs.length + ys.length) c').ownBlock = some w.heap.size) := by
  obtain ⟨i, z, hi, hz, hsz, hby, hzs⟩ := H.info
  obtain ⟨rfl, ho⟩ := h
  have h63 : xs.length + ys.length ≤ maxLen := by
    have := Nat.le_mul_of_pos_right (xs.length + ys.length) H.posB
    simp only [maxLen]; omega
  obtain ⟨v', w', hr, h2, h3, h4, h5⟩ := run_append_own_at (P := P) w base t ty e i z sz bytes H.under hi hz hsz hby hzs H.pos _ _ _ ho a2 ys.length c2 (ys.flatMap enc) (enc_len he ys) hc
    (fun u hu => by obtain ⟨x, _, hx⟩ := List.mem_flatMap.1 hu; exact h1 x u hx) h63 hlen hb
  have h2' : w'.ownsRow base e sz v' (xs ++ ys).length ((xs ++ ys).flatMap enc) := by rw [List.length_append, List.flatMap_append]; exact h2
  have hform : ∃ a' c', v' = .slice a' (xs.length + ys.length) c' := by
    rcases h2.2 with ⟨rfl, h0⟩ | ⟨g, cap, cur, rfl, _⟩
    · exact ⟨none, 0, by rw [h0]⟩
    · exact ⟨_, _, rfl⟩
  obtain ⟨a', c', rfl⟩ := hform
  exact ⟨a', c', w', hr, ⟨by simp, h2'⟩, h3, h5⟩
theorem OwnR.push {α : Type} {P : Program} {t ty e te : TypeId} {sz bytes base : Nat} {enc : α → List Value} {w : World} {a : Option Addr} {l c : Nat} {xs : List α} (x : α) (H : SlT P t e sz bytes) (h : OwnR base e sz enc w a l c xs)
    (hb : base ≤ w.heap.size) (he : ∀ x, (enc x).length = sz) (h1 : ∀ x u, u ∈ enc x → u.oneCell' = true) (hlen : (xs.length + 1) * bytes ≤ 140737488355328) {cs : Array Value} (hcs : cs = (enc x).toArray)
    {F : Option Addr → Nat → Nat → World → Prop}
    (k : ∀ a' c' w', OwnR base e sz enc w' a' (xs.length + 1) c' (xs ++ [x]) → w.grownBy w' (Value.slice a l c).ownBlock →
      ((Value.slice a' (xs.length + 1) c').ownBlock = (Value.slice a l c).ownBlock ∨ ∃ g, (Value.slice a' (xs.length + 1) c').ownBlock = some g ∧ w.heap.size ≤ g) → F a' (xs.length + 1) c' w') :
    AllocK w cs te fun b w1 => ∃ a' l' c' w2, Sem.run P (Builtin.append_ #[t, t] ty #[.slice a l c, .slice (some b) 1 1]) w1 = .ok (.slice a' l' c') w2 ∧ F a' l' c' w2 := by
  refine AllocK.mk fun b w1 hb1 hblk hx => ?_
  have ho := h.ext hx
  obtain ⟨a', c', w', hr, h2, h3, h4⟩ := OwnR.appendN (ty := ty) H (xs := xs) (ys := [x]) ho (Nat.le_trans hb hx.size) he h1 ⟨b, 0, none⟩ 1 (fun j u hu => by
    rw [add_mk, Nat.zero_add, hblk.cell, hcs]; simpa using hu) hlen
  refine ⟨a', _, c', w', hr, k a' c' w' h2 ⟨h3.os.trans hx.os, h3.tape.trans hx.tape, h3.output.trans hx.output, Nat.le_trans hx.size h3.size, fun i hi hne => (h3.block i (Nat.lt_of_lt_of_le hi hx.size) hne).trans (hx.block i hi)⟩ ?_⟩
  rcases h4 with h4 | h4
  · exact .inl h4
  · exact .inr ⟨_, h4, hx.size⟩
theorem OwnR.below {α : Type} {base : Nat} {e : TypeId} {sz : Nat} {enc : α → List Value} {w w' : World} {a : Option Addr} {l c : Nat} {xs : List α} (h : OwnR base e sz enc w a l c xs) (hb : base ≤ w.heap.size)
    (hg : w.grownBy w' (Value.slice a l c).ownBlock) : Below base w w' := grown_below hg (fun k hk => (h.lt k hk).1) hb
theorem OwnR.set {α : Type} {base : Nat} {e : TypeId} {sz : Nat} {enc : α → List Value} {w : World} {g l c : Nat} {xs ys : List α} (h : OwnR base e sz enc w (some ⟨g, 0, none⟩) l c xs) (i : Nat) (v : Value) (hi : i < xs.length * sz)
    (hl : ys.length = xs.length) (hys : (xs.flatMap enc).set i v = ys.flatMap enc) {F : World → Prop}
    (k : ∀ w', OwnR base e sz enc w' (some ⟨g, 0, none⟩) l c ys → But g w w' → F w') : SetK w ⟨g, i, none⟩ v F := by
  obtain ⟨rfl, ho⟩ := h
  rcases ho.2 with ⟨h0, _⟩ | ⟨g', cap, cur, hv, hbg, hg, h1, h2, h3, h4⟩
  · simp at h0
  · simp only [Value.slice.injEq, Option.some.injEq, Addr.mk.injEq, and_true, true_and] at hv
    obtain ⟨rfl, rfl⟩ := hv
    have hi' : i < cur.size := by rw [h3]; exact Nat.lt_of_lt_of_le hi (Nat.mul_le_mul_right _ h1)
    refine SetK.mk (show Blk w g cur e from hg) hi' fun w' hblk hbut => k w' ⟨hl.symm, ?_⟩ hbut
    refine ⟨?_, .inr ⟨g, c, cur.setIfInBounds i v, by rw [hl], hbg, hblk, by rw [hl]; exact h1, h2, by simpa using h3, ?_⟩⟩
    · rw [← hys, List.length_set, ho.1, hl]
    · rw [Array.toList_setIfInBounds, hl, List.take_set, h4, hys]
def eP (x : Int × Int) : List Value := [.int .i64 x.1, .int .i64 x.2]
def eI (x : Int) : List Value := [.int .i64 x]
def eS (x : Option Addr × Nat × Nat) : List Value := [.slice x.1 x.2.1 x.2.2]
theorem eP_len (x : Int × Int) : (eP x).length = 2 := rfl
theorem eI_len (x : Int) : (eI x).length = 1 := rfl
theorem eS_len (x : Option Addr × Nat × Nat) : (eS x).length = 1 := rfl
theorem eP_one (x : Int × Int) (u : Value) (h : u ∈ eP x) : u.oneCell' = true := by simp [eP] at h; rcases h with rfl | rfl <;> rfl
theorem eI_one (x : Int) (u : Value) (h : u ∈ eI x) : u.oneCell' = true := by simp [eI] at h; subst h; rfl
theorem eS_one (x : Option Addr × Nat × Nat) (u : Value) (h : u ∈ eS x) : u.oneCell' = true := by simp [eS] at h; subst h; rfl
theorem OwnR.dom {base : Nat} {e : TypeId} {w : World} {a : Option Addr} {l c : Nat} {d : List (Int × Int)} (h : OwnR base e 2 eP w a l c d) : Dom w a l d :=
  h.rows eP_len RPair rfl fun f i x y hx hy hf => by
    rw [hx] at hy; cases hy
    exact ⟨by rw [hf 0 (by omega)]; rfl, by rw [hf 1 (by omega)]; rfl⟩
theorem OwnR.ints {base : Nat} {e : TypeId} {w : World} {a : Option Addr} {l c : Nat} {d : List Int} (h : OwnR base e 1 eI w a l c d) : Ints w a l d :=
  h.rows eI_len RInt rfl fun f i x y hx hy hf => by
    rw [hx] at hy; cases hy
    show f 0 = _; rw [hf 0 (by omega)]; rfl
def slOk (P : Program) (t e : TypeId) (sz bytes : Nat) : Bool :=
  (match P.underlying t with | some (.slice e') => e' == e | _ => false) &&
  (match P.info? e with | some i => (match i.zero with | some z => i.size == sz && i.bytes == bytes && z.cells.size == sz | none => false) | none => false) && decide (0 < sz) && decide (0 < bytes)
theorem slOk.ok {P : Program} {t e : TypeId} {sz bytes : Nat} (h : slOk P t e sz bytes = true) : SlT P t e sz bytes := by
  simp only [slOk, Bool.and_eq_true, decide_eq_true_eq] at h
  obtain ⟨⟨⟨h1, h2⟩, h3⟩, h4⟩ := h
  refine ⟨?_, ?_, h3, h4⟩
  · split at h1
    · rename_i e' he; rw [he]; simp at h1; rw [h1]
    · cases h1
  · split at h2
    · rename_i i hi
      split at h2
      · rename_i z hz
        simp at h2
        exact ⟨i, z, hi, hz, h2.1.1, h2.1.2, h2.2⟩
      · cases h2
    · cases h2
end Go.V

namespace Go.V
open Go.RowKit (Below)
theorem DrewK.mk {w : World} {F : World → Prop} (h : ∀ w', Ext w w' → F w') : DrewK w F := h _ (Ext.drew w)
theorem run_append_none {P : Program} (w : World) {t ty e : TypeId} {sz bytes : Nat} (H : SlT P t e sz bytes) (c : Nat) :
    Sem.run P (Builtin.append_ #[t, t] ty #[.slice none 0 0, .slice none 0 c]) w = .ok (.slice none 0 0) w := by
  obtain ⟨i, z, hi, _⟩ := H.info
  simp [Builtin.append_, run_underlying H.under, sizeOf, typeInfo, hi, Builtin.lenOf, Builtin.firstCells]
theorem copyRows {α : Type} {P : Program} {t ty e : TypeId} {sz bytes : Nat} {enc : α → List Value} {R : World → Cells → α → Prop} {w : World} {a : Option Addr} {l c : Nat} {xs : List α} (H : SlT P t e sz bytes) (h : Rows sz R w a l xs)
    (he : ∀ x, (enc x).length = sz) (h1 : ∀ x u, u ∈ enc x → u.oneCell' = true) (hR : ∀ f x, R w f x → ∀ j, j < sz → f j = (enc x)[j]?) (hlen : xs.length * bytes ≤ 140737488355328) :
    ∃ a' c' w', Sem.run P (Builtin.append_ #[t, t] ty #[.slice none 0 0, .slice a l c]) w = .ok (.slice a' l c') w' ∧ OwnR w.heap.size e sz enc w' a' l c' xs ∧ Ext w w' := by
  obtain ⟨rfl, hx⟩ := h
  cases a with
  | none =>
    rcases hx with rfl | ⟨b, o, ha, _⟩
    · exact ⟨none, 0, w, run_append_none w H c, OwnR.nil _ _ _ _ _, Ext.refl w⟩
    · cases ha
  | some p =>
    have hc : ∀ j u, (xs.flatMap enc)[j]? = some u → w.cell? (p.add j) = some u := by
      intro j u hu
      rcases hx with rfl | ⟨b, o, ha, hx⟩
      · simp at hu
      · simp at ha; subst ha
        rw [add_mk]
        have hj : j < xs.length * sz := by rw [← enc_len he]; exact (List.getElem?_eq_some_iff.1 hu).1
        have hi : j / sz < xs.length := Nat.div_lt_of_lt_mul (by rw [Nat.mul_comm]; exact hj)
        have hm : j % sz < sz := Nat.mod_lt _ H.pos
        have hjj : j / sz * sz + j % sz = j := Nat.div_add_mod' j sz
        have := hR _ _ (hx (j / sz) _ (List.getElem?_eq_getElem hi)) (j % sz) hm
        rw [Nat.add_assoc, hjj] at this
        rw [this, ← enc_get he (List.getElem?_eq_getElem hi) hm, hjj]; exact hu
    obtain ⟨a', c', w', hr, ho, hg, _⟩ := OwnR.appendN (ty := ty) (xs := []) (ys := xs) (a := none) (l := 0) (c := 0) H (OwnR.nil w.heap.size e sz enc w) (Nat.le_refl _) he h1 p c hc (by simpa using hlen)
    simp only [List.length_nil, Nat.zero_add, List.nil_append] at hr ho
    exact ⟨a', c', w', hr, ho, Ext.grown hg rfl⟩
def RowsO {β : Type} (base : Nat) (e : TypeId) (sz : Nat) (R : World → Cells → β → Prop) (w : World) (a : Option Addr) (l c : Nat) (ds : List (List β)) : Prop :=
  ∃ S : List (Option Addr × Nat × Nat), S.length = ds.length ∧ OwnR base e 1 eS w a l c S ∧
    ∀ (i : Nat) (s : Option Addr × Nat × Nat) (d : List β), S[i]? = some s → ds[i]? = some d → Rows sz R w s.1 s.2.1 d ∧ (d = [] ∨ ∀ p, s.1 = some p → some p.block ≠ (Value.slice a l c).ownBlock)
theorem RowsO.nil {β : Type} (base : Nat) (e : TypeId) (sz : Nat) (R : World → Cells → β → Prop) (w : World) : RowsO base e sz R w none 0 0 ([] : List (List β)) :=
  ⟨[], rfl, OwnR.nil _ _ _ _ _, by simp⟩
theorem RowsO.len {β : Type} {base : Nat} {e : TypeId} {sz : Nat} {R : World → Cells → β → Prop} {w : World} {a : Option Addr} {l c : Nat} {ds : List (List β)} (h : RowsO base e sz R w a l c ds) : l = ds.length := by
  obtain ⟨S, h1, h2, _⟩ := h; rw [h2.1, h1]
theorem RowsO.ext {β : Type} {base : Nat} {e : TypeId} {sz : Nat} {R : World → Cells → β → Prop} (hR : Mono R) {w w' : World} {a : Option Addr} {l c : Nat} {ds : List (List β)} (h : RowsO base e sz R w a l c ds) (k : Ext w w') : RowsO base e sz R w' a l c ds := by
  obtain ⟨S, h1, h2, h3⟩ := h
  exact ⟨S, h1, h2.ext k, fun i s d hs hd => ⟨(h3 i s d hs hd).1.ext hR k, (h3 i s d hs hd).2⟩⟩
theorem RowsO.doms {β : Type} {base : Nat} {e : TypeId} {sz : Nat} {R : World → Cells → β → Prop} {w : World} {a : Option Addr} {l c : Nat} {ds : List (List β)} (h : RowsO base e sz R w a l c ds) : Rows 1 (RSl sz R) w a l ds := by
  obtain ⟨S, h1, h2, h3⟩ := h
  refine h2.rows eS_len (RSl sz R) h1.symm fun f i s d hs hd hf => ⟨s.1, s.2.1, s.2.2, ?_, (h3 i s d hs hd).1⟩
  rw [hf 0 (by omega)]; rfl
theorem RowsO.get {β : Type} {base : Nat} {e : TypeId} {sz : Nat} {R : World → Cells → β → Prop} {w : World} {a : Option Addr} {l c : Nat} {ds : List (List β)} (h : RowsO base e sz R w a l c ds) {i : Nat} (hi : i < ds.length) :
    ∃ (g : Nat) (s : Option Addr × Nat × Nat), a = some ⟨g, 0, none⟩ ∧ base ≤ g ∧ g < w.heap.size ∧ w.cell? ⟨g, i, none⟩ = some (.slice s.1 s.2.1 s.2.2) ∧ Rows sz R w s.1 s.2.1 ds[i] := by
  obtain ⟨S, h1, h2, h3⟩ := h
  have hs : S[i]? = some S[i] := List.getElem?_eq_getElem (by omega)
  obtain ⟨g, ha, hb, hg, hc⟩ := h2.cellAt eS_len hs
  refine ⟨g, S[i], ha, hb, hg, ?_, (h3 i _ _ hs (List.getElem?_eq_getElem hi)).1⟩
  have := hc 0 (by omega)
  rw [Nat.mul_one, Nat.add_zero] at this
  rw [this]; rfl
theorem Rows.block {α : Type} {sz : Nat} {R : World → Cells → α → Prop} (hR : ∀ w w' f x, R w f x → R w' f x) {w w' : World} {a : Option Addr} {l : Nat} {xs : List α} (h : Rows sz R w a l xs)
    (k : xs = [] ∨ ∀ p, a = some p → w'.heap[p.block]? = w.heap[p.block]?) : Rows sz R w' a l xs := by
  obtain ⟨h1, h2⟩ := h
  refine ⟨h1, ?_⟩
  rcases k with k | k
  · exact .inl k
  · refine h2.imp id ?_
    rintro ⟨b, o, rfl, hx⟩
    refine ⟨b, o, rfl, fun i x hi => ?_⟩
    have e1 : (fun j => w'.cell? ⟨b, o + i * sz + j, none⟩) = fun j => w.cell? ⟨b, o + i * sz + j, none⟩ := by
      funext j; exact World.cell?_of_block (k ⟨b, o, none⟩ rfl)
    rw [e1]; exact hR w w' _ _ (hx i x hi)
theorem RPair.leaf : ∀ (w w' : World) f x, RPair w f x → RPair w' f x := fun _ _ _ _ h => h
theorem RInt.leaf : ∀ (w w' : World) f x, RInt w f x → RInt w' f x := fun _ _ _ _ h => h
theorem RowsO.set {β : Type} {base : Nat} {e : TypeId} {sz : Nat} {R : World → Cells → β → Prop} (hR : ∀ w w' f x, R w f x → R w' f x) {w : World} {g l c : Nat} {ds : List (List β)}
    (h : RowsO base e sz R w (some ⟨g, 0, none⟩) l c ds) {i : Nat} (hi : i < ds.length) {a' : Option Addr} {l' c' : Nat} {d : List β} (hd : Rows sz R w a' l' d) (hne : d = [] ∨ ∀ p, a' = some p → p.block ≠ g) {F : World → Prop}
    (k : ∀ w', RowsO base e sz R w' (some ⟨g, 0, none⟩) l c (ds.set i d) → But g w w' → F w') : SetK w ⟨g, i, none⟩ (.slice a' l' c') F := by
  obtain ⟨S, h1, h2, h3⟩ := h
  refine OwnR.set (ys := S.set i (a', l', c')) h2 i _ (by omega) (by simp) ?_ fun w' ho hbut => k w' ⟨S.set i (a', l', c'), by simp [h1], ho, fun j s d' hs hd' => ?_⟩ hbut
  · have e1 : ∀ X : List (Option Addr × Nat × Nat), X.flatMap eS = X.map fun s => Value.slice s.1 s.2.1 s.2.2 := by
      intro X; induction X with
      | nil => rfl
      | cons x xs ih => rw [List.flatMap_cons, ih]; rfl
    rw [e1, e1, List.map_set]
  · rw [List.getElem?_set] at hs hd'
    by_cases hij : i = j
    · subst hij
      rw [if_pos rfl, if_pos (by omega)] at hs
      rw [if_pos rfl, if_pos (by omega)] at hd'
      cases hs; cases hd'
      refine ⟨hd.block hR (hne.imp id fun hh p hp => hbut.block _ (hh p hp)), hne.imp id fun hh p hp => ?_⟩
      simp only [Value.ownBlock, ne_eq, Option.some.injEq]; exact hh p hp
    · rw [if_neg hij] at hs hd'
      obtain ⟨h4, h5⟩ := h3 j s d' hs hd'
      refine ⟨h4.block hR (h5.imp id fun hh p hp => hbut.block _ (fun e => hh p hp (by rw [← e]; rfl))), h5⟩
theorem OwnR.apart {α : Type} {base : Nat} {e : TypeId} {sz : Nat} {enc : α → List Value} {w : World} {a : Option Addr} {l c : Nat} {xs : List α} (h : OwnR base e sz enc w a l c xs) {g : Nat} (hg : g < base) : xs = [] ∨ ∀ p, a = some p → p.block ≠ g :=
  .inr fun p hp e => by have := (h.lt p.block (by rw [hp]; rfl)).1; omega
theorem Rows.lt {α : Type} {sz : Nat} {R : World → Cells → α → Prop} (hR : ∀ w f x, R w f x → ∃ v, f 0 = some v) {w : World} {a : Option Addr} {l : Nat} {xs : List α} (h : Rows sz R w a l xs) : xs = [] ∨ ∀ p, a = some p → p.block < w.heap.size := by
  rcases h.2 with h | ⟨b, o, rfl, hx⟩
  · exact .inl h
  · cases xs with
    | nil => exact .inl rfl
    | cons x xs =>
      right
      intro p hp; cases hp
      obtain ⟨v, hv⟩ := hR _ _ _ (hx 0 x rfl)
      exact block_lt_of_cell (a := ⟨b, o + 0 * sz + 0, none⟩) hv
theorem RPair.some0 : ∀ (w : World) f x, RPair w f x → ∃ v, f 0 = some v := fun _ _ _ h => ⟨_, h.1⟩
theorem RInt.some0 : ∀ (w : World) f x, RInt w f x → ∃ v, f 0 = some v := fun _ _ _ h => ⟨_, h⟩
theorem RowsO.push {β : Type} {P : Program} {t ty e te : TypeId} {bytes base sz : Nat} {R : World → Cells → β → Prop} (_hR : Mono R) (hR2 : ∀ w w' f x, R w f x → R w' f x) (hR0 : ∀ w f x, R w f x → ∃ v, f 0 = some v) {w : World} {a : Option Addr} {l c : Nat} {ds : List (List β)}
    (H : SlT P t e 1 bytes) (h : RowsO base e sz R w a l c ds) (hb : base ≤ w.heap.size) (hlen : (ds.length + 1) * bytes ≤ 140737488355328) {a' : Option Addr} {l' c' : Nat} {d : List β} (hd : Rows sz R w a' l' d)
    (hne : d = [] ∨ ∀ p, a' = some p → some p.block ≠ (Value.slice a l c).ownBlock) {F : Option Addr → Nat → Nat → World → Prop}
    (k : ∀ a2 c2 w', RowsO base e sz R w' a2 (ds.length + 1) c2 (ds ++ [d]) → Below base w w' → F a2 (ds.length + 1) c2 w') :
    AllocK w #[.slice a' l' c'] te fun b w1 => ∃ a2 l2 c2 w2, Sem.run P (Builtin.append_ #[t, t] ty #[.slice a l c, .slice (some b) 1 1]) w1 = .ok (.slice a2 l2 c2) w2 ∧ F a2 l2 c2 w2 := by
  obtain ⟨S, h1, h2, h3⟩ := h
  refine OwnR.push (a', l', c') H h2 hb eS_len eS_one (by rw [h1]; exact hlen) rfl fun a2 c2 w' ho hg hown => ?_
  rw [h1]
  have key : ∀ (s : Option Addr × Nat × Nat) (x : List β), Rows sz R w s.1 s.2.1 x → (x = [] ∨ ∀ p, s.1 = some p → some p.block ≠ (Value.slice a l c).ownBlock) →
      Rows sz R w' s.1 s.2.1 x ∧ (x = [] ∨ ∀ p, s.1 = some p → some p.block ≠ (Value.slice a2 (S.length + 1) c2).ownBlock) := by
    intro s x hx hn
    have hlt := hx.lt hR0
    rcases hn with hn | hn
    · exact ⟨hx.block hR2 (.inl hn), .inl hn⟩
    rcases hlt with hlt | hlt
    · exact ⟨hx.block hR2 (.inl hlt), .inl hlt⟩
    refine ⟨hx.block hR2 (.inr fun p hp => hg.block _ (hlt p hp) (hn p hp)), .inr fun p hp => ?_⟩
    rcases hown with e1 | ⟨g, e1, e2⟩
    · rw [e1]; exact hn p hp
    · rw [e1]; intro e3; simp at e3; have := hlt p hp; omega
  refine k a2 c2 w' ⟨S ++ [(a', l', c')], by simp [h1], by rw [← h1]; exact ho, fun i s x hs hx => ?_⟩ (h2.below hb hg)
  rw [← h1]
  rcases Nat.lt_or_ge i S.length with hi | hi
  · rw [List.getElem?_append_left hi] at hs
    rw [List.getElem?_append_left (by omega)] at hx
    exact key s x (h3 i s x hs hx).1 (h3 i s x hs hx).2
  · rw [List.getElem?_append_right hi] at hs
    rw [List.getElem?_append_right (by omega)] at hx
    have : i - S.length = 0 := by
      have := (List.getElem?_eq_some_iff.1 hs).1
      simp at this; omega
    rw [this] at hs
    rw [← h1, this] at hx
    simp at hs hx; subst hs; subst hx
    exact key _ _ hd hne
end Go.V

namespace Go.V
open Go.RowKit (Below)
def ixOf {K : Type} [DecidableEq K] : List K → K → Nat → Option Nat
  | [], _, _ => none
  | k :: ks, a, i => if a = k then some i else ixOf ks a (i + 1)
structure KeyOk {K : Type} [DecidableEq K] (P : Program) (kt : TypeId) (enc : K → Value) : Prop where
  chk : ∀ e a w, (Instr.checkKey e 10000 kt (enc a)).run P w = .ok () w
  find : ∀ (es : List MapEntry) (ks : List K) (a : K) (w : World), es.map (·.key) = ks.map enc → (Instr.findKey kt (enc a) es).run P w = .ok ((ixOf ks a 0).bind fun i => (es[i]?).map fun e => (i, e.val)) w
  same : ∀ a, Instr.sameBits 10000 (enc a) (enc a) = true
structure MapT {K V : Type} [DecidableEq K] (P : Program) (t kt et : TypeId) (enc : K → Value) (encV : V → Value) (z : V) : Prop where
  und : P.underlying t = some (.map kt et)
  key : KeyOk P kt enc
  zer : ∀ w, (zeroValue et).run P w = .ok (encV z) w
theorem ixOf_some {K : Type} [DecidableEq K] {a : K} : ∀ {ks : List K} {i j : Nat}, ixOf ks a i = some j → i ≤ j ∧ ks[j - i]? = some a
  | [], i, j, h => by simp [ixOf] at h
  | k :: ks, i, j, h => by
    rw [ixOf] at h
    split at h
    · rename_i he; cases h; subst he; simp
    · obtain ⟨h1, h2⟩ := ixOf_some h
      refine ⟨by omega, ?_⟩
      rw [show j - i = j - (i + 1) + 1 by omega, List.getElem?_cons_succ]; exact h2
theorem ixOf_none {K : Type} [DecidableEq K] {a : K} : ∀ {ks : List K} {i : Nat}, ixOf ks a i = none → a ∉ ks
  | [], i, _ => by simp
  | k :: ks, i, h => by
    rw [ixOf] at h
    split at h
    · cases h
    · rename_i hne
      simp only [List.mem_cons, not_or]
      exact ⟨hne, ixOf_none h⟩
def lget {K V : Type} [DecidableEq K] : List (K × V) → K → Option V
  | [], _ => none
  | (k, v) :: r, a => if a = k then some v else lget r a
theorem lget_none {K V : Type} [DecidableEq K] {a : K} : ∀ {m : List (K × V)}, a ∉ m.map (·.1) → lget m a = none
  | [], _ => rfl
  | (k, v) :: r, h => by
    simp only [List.map_cons, List.mem_cons, not_or] at h
    rw [lget, if_neg h.1]; exact lget_none h.2
theorem lget_at {K V : Type} [DecidableEq K] {a : K} {v : V} : ∀ {m : List (K × V)} {i : Nat}, (m.map (·.1)).Nodup → m[i]? = some (a, v) → lget m a = some v
  | [], i, _, h => by simp at h
  | (k, u) :: r, 0, _, h => by simp at h; obtain ⟨rfl, rfl⟩ := h; rw [lget, if_pos rfl]
  | (k, u) :: r, i + 1, hn, h => by
    simp only [List.getElem?_cons_succ] at h
    simp only [List.map_cons, List.nodup_cons] at hn
    have hm : a ∈ r.map (·.1) := List.mem_map.2 ⟨(a, v), List.mem_of_getElem? h, rfl⟩
    rw [lget, if_neg (fun e => by subst e; exact hn.1 hm)]
    exact lget_at hn.2 h
theorem lget_append {K V : Type} [DecidableEq K] {a : K} : ∀ {m r : List (K × V)}, lget (m ++ r) a = match lget m a with | some v => some v | none => lget r a
  | [], r => by simp [lget]
  | (k, v) :: m, r => by
    rw [List.cons_append, lget, lget]
    split
    · rfl
    · exact lget_append
theorem lget_set {K V : Type} [DecidableEq K] {a b : K} {v : V} : ∀ {m : List (K × V)} {i : Nat}, (m.map (·.1)).Nodup → (m.map (·.1))[i]? = some a → lget (m.set i (a, v)) b = if b = a then some v else lget m b
  | [], i, _, h => by simp at h
  | (k, u) :: r, 0, _, h => by
    simp at h; subst h
    rw [List.set_cons_zero, lget, lget]; split <;> rfl
  | (k, u) :: r, i + 1, hn, h => by
    simp only [List.map_cons, List.getElem?_cons_succ] at h
    simp only [List.map_cons, List.nodup_cons] at hn
    rw [List.set_cons_succ, lget, lget_set hn.2 h, lget]
    by_cases hb : b = k
    · subst hb
      have hm := List.mem_of_getElem? h
      rw [if_pos rfl, if_neg (fun e => by subst e; exact hn.1 hm), if_pos rfl]
    · rw [if_neg hb, if_neg hb]
theorem lget_erase {K V : Type} [DecidableEq K] {a b : K} : ∀ {m : List (K × V)} {i : Nat}, (m.map (·.1)).Nodup → (m.map (·.1))[i]? = some a → lget (m.eraseIdx i) b = if b = a then none else lget m b
  | [], i, _, h => by simp at h
  | (k, u) :: r, 0, hn, h => by
    simp at h; subst h
    simp only [List.map_cons, List.nodup_cons] at hn
    rw [List.eraseIdx_zero, List.tail_cons, lget]
    by_cases hb : b = k
    · subst hb; rw [if_pos rfl]; exact lget_none hn.1
    · rw [if_neg hb, if_neg hb]
  | (k, u) :: r, i + 1, hn, h => by
    simp only [List.map_cons, List.getElem?_cons_succ] at h
    simp only [List.map_cons, List.nodup_cons] at hn
    rw [List.eraseIdx_cons_succ, lget, lget_erase hn.2 h, lget]
    by_cases hb : b = k
    · subst hb
      have hm := List.mem_of_getElem? h
      rw [if_pos rfl, if_neg (fun e => by subst e; exact hn.1 hm), if_pos rfl]
    · rw [if_neg hb, if_neg hb]
structure MapO {K V : Type} [DecidableEq K] (enc : K → Value) (encV : V → Value) (w : World) (r : Nat) (m : List (K × V)) (bs : List Nat) (clock : Nat) : Prop where
  obj : ∃ es, w.heap[r]? = some (.map es clock) ∧ es.toList.map (·.key) = (m.map (·.1)).map enc ∧ es.toList.map (·.val) = (m.map (·.2)).map encV ∧ es.toList.map (·.born) = bs
  nodup : (m.map (·.1)).Nodup
  born : bs.Nodup
  old : ∀ b ∈ bs, b < clock
def MapF {K V : Type} [DecidableEq K] (enc : K → Value) (encV : V → Value) (z : V) (w : World) (r : Nat) (f : K → V) : Prop :=
  ∃ m bs clock, MapO enc encV w r m bs clock ∧ ∀ a, (lget m a).getD z = f a
def MapSt {K V : Type} [DecidableEq K] (enc : K → Value) (encV : V → Value) (z : V) (w : World) (r : Nat) (f : K → V) (a : K) (st : Nat) : Prop :=
  ∃ (m : List (K × V)) (bs : List Nat) (clock i : Nat), MapO enc encV w r m bs clock ∧ (∀ a, (lget m a).getD z = f a) ∧ (m.map (·.1))[i]? = some a ∧ bs[i]? = some st
def upd {K V : Type} [DecidableEq K] (f : K → V) (a : K) (v : V) : K → V := fun b => if b = a then v else f b
section
variable {K V : Type} [DecidableEq K] {P : Program} {t kt et : TypeId} {enc : K → Value} {encV : V → Value} {z : V} {w : World} {r : Nat} {f : K → V}
theorem MapO.heap {m : List (K × V)} {bs : List Nat} {clock : Nat} (h : MapO enc encV w r m bs clock) {w' : World} (k : w'.heap[r]? = w.heap[r]?) : MapO enc encV w' r m bs clock := by
  obtain ⟨⟨es, h1, h2⟩, h3, h4, h5⟩ := h
  exact ⟨⟨es, k.trans h1, h2⟩, h3, h4, h5⟩
theorem MapF.heap (h : MapF enc encV z w r f) {w' : World} (k : w'.heap[r]? = w.heap[r]?) : MapF enc encV z w' r f := by
  obtain ⟨m, bs, c, h1, h2⟩ := h; exact ⟨m, bs, c, h1.heap k, h2⟩
theorem MapF.lt (h : MapF enc encV z w r f) : r < w.heap.size := by
  obtain ⟨m, bs, c, ⟨⟨es, h1, _⟩, _⟩, _⟩ := h; exact (Array.getElem?_eq_some_iff.1 h1).1
theorem MapF.ext (h : MapF enc encV z w r f) {w' : World} (k : Ext w w') : MapF enc encV z w' r f := h.heap (k.block r h.lt)
theorem MapF.congr (h : MapF enc encV z w r f) {g : K → V} (k : ∀ a, f a = g a) : MapF enc encV z w r g := by
  obtain ⟨m, bs, c, h1, h2⟩ := h; exact ⟨m, bs, c, h1, fun a => (h2 a).trans (k a)⟩
theorem ix_val {m : List (K × V)} {es : Array MapEntry} {a : K} (h2 : es.toList.map (·.val) = (m.map (·.2)).map encV) (hn : (m.map (·.1)).Nodup) :
    ((ixOf (m.map (·.1)) a 0).bind fun i => (es.toList[i]?).map fun e => (i, e.val)) = (ixOf (m.map (·.1)) a 0).bind fun i => (lget m a).map fun v => (i, encV v) := by
  cases hi : ixOf (m.map (·.1)) a 0 with
  | none => rfl
  | some i =>
    obtain ⟨_, hk⟩ := ixOf_some hi
    rw [Nat.sub_zero] at hk
    obtain ⟨kv, hkv, hke⟩ : ∃ kv, m[i]? = some kv ∧ kv.1 = a := by
      rw [List.getElem?_map] at hk
      cases hm : m[i]? with
      | none => rw [hm] at hk; cases hk
      | some kv => rw [hm] at hk; simp at hk; exact ⟨kv, rfl, hk⟩
    obtain ⟨k, v⟩ := kv
    simp only at hke; subst hke
    have hv : (es.toList[i]?).map (·.val) = some (encV v) := by
      have := congrArg (·[i]?) h2
      simp only [List.getElem?_map] at this
      rw [hkv] at this
      simpa using this
    have hl := lget_at hn hkv
    cases he : es.toList[i]? with
    | none => rw [he] at hv; cases hv
    | some e =>
      rw [he] at hv
      simp only [Option.map_some, Option.some.injEq] at hv
      show ((es.toList[i]?).map fun e => (i, e.val)) = ((lget m k).map fun v => (i, encV v))
      rw [he, hl]; simp [hv]
theorem MapF.lookup (T : MapT P t kt et enc encV z) (h : MapF enc encV z w r f) (a : K) :
    Sem.run P (Instr.lookup t (.map (some r)) (enc a) false) w = .ok (encV (f a)) w := by
  obtain ⟨m, bs, c, ⟨⟨es, h1, h2, h3, h4⟩, hn, _⟩, hf⟩ := h
  have hg : (getObj r).run P w = .ok (.map es c) w := by simp [getObj, Sem.run, h1]
  have hfind := T.key.find es.toList (m.map (·.1)) a w h2
  rw [ix_val h3 hn] at hfind
  simp only [Instr.lookup, Sem.run_bind, run_underlying T.und, Result.andThen_ok, hg, T.key.chk, hfind, Sem.run_pure]
  rw [← hf a]
  cases hi : ixOf (m.map (·.1)) a 0 with
  | none => rw [lget_none (ixOf_none hi)]; simp [T.zer]
  | some i =>
    obtain ⟨_, hk⟩ := ixOf_some hi
    cases hl : lget m a with
    | some v => simp
    | none =>
      exfalso
      rw [Nat.sub_zero, List.getElem?_map] at hk
      cases hm : m[i]? with
      | none => rw [hm] at hk; cases hk
      | some kv =>
        rw [hm] at hk; simp at hk
        obtain ⟨k, v⟩ := kv
        simp only at hk; subst hk
        rw [lget_at hn hm] at hl; cases hl
theorem ix_lt {m : List (K × V)} {a : K} {i : Nat} (h : ixOf (m.map (·.1)) a 0 = some i) : (m.map (·.1))[i]? = some a := by
  obtain ⟨_, hk⟩ := ixOf_some h; rwa [Nat.sub_zero] at hk
theorem setObj_run {P : Program} {w : World} {r : Nat} {es es' : Array MapEntry} {c c' : Nat} (h1 : w.heap[r]? = some (.map es c)) :
    (setObj r (.map es' c')).run P w = .ok () { w with heap := w.heap.setIfInBounds r (.map es' c') } := by simp [setObj, Sem.run, h1]
theorem setObj_heap {w : World} {r : Nat} {o o' : Obj} (h1 : w.heap[r]? = some o) : ({ w with heap := w.heap.setIfInBounds r o' } : World).heap[r]? = some o' := by
  have := (Array.getElem?_eq_some_iff.1 h1).1
  simp [this]
theorem setObj_but (w : World) (r : Nat) (o : Obj) : But r w { w with heap := w.heap.setIfInBounds r o } :=
  ⟨rfl, rfl, rfl, by simp, fun k hk => by simp [Array.getElem?_setIfInBounds_ne (Ne.symm hk)]⟩
theorem MapO.setAt {m : List (K × V)} {bs : List Nat} {clock : Nat} {w' : World} {es : Array MapEntry} {i : Nat} {a : K} {v : V} {b : Nat} (hs : es.toList.map (·.key) = (m.map (·.1)).map enc ∧ es.toList.map (·.val) = (m.map (·.2)).map encV ∧ es.toList.map (·.born) = bs)
    (hn : (m.map (·.1)).Nodup) (hb : bs.Nodup) (ho : ∀ b ∈ bs, b < clock) (hi : (m.map (·.1))[i]? = some a) (hbi : bs[i]? = some b)
    (he : w'.heap[r]? = some (.map (es.setIfInBounds i ⟨enc a, encV v, b⟩) clock)) : MapO enc encV w' r (m.set i (a, v)) bs clock := by
  obtain ⟨h2, h3, h4⟩ := hs
  have e1 : (m.set i (a, v)).map (·.1) = m.map (·.1) := by
    rw [List.map_set]
    apply List.ext_getElem?; intro j
    rw [List.getElem?_set]
    split
    · rename_i hij; subst hij
      rw [hi]; have := (List.getElem?_eq_some_iff.1 hi).1; rw [if_pos this]
    · rfl
  refine ⟨⟨_, he, ?_, ?_, ?_⟩, by rw [e1]; exact hn, hb, ho⟩
  · rw [e1, Array.toList_setIfInBounds, List.map_set, h2]
    apply List.ext_getElem?; intro j
    rw [List.getElem?_set]
    split
    · rename_i hij; subst hij
      rw [List.getElem?_map, hi]
      have := (List.getElem?_eq_some_iff.1 hi).1
      rw [if_pos (by simpa using this)]; rfl
    · rfl
  · rw [Array.toList_setIfInBounds, List.map_set, h3, List.map_set, List.map_set]
  · rw [Array.toList_setIfInBounds, List.map_set, h4]
    apply List.ext_getElem?; intro j
    rw [List.getElem?_set]
    split
    · rename_i hij; subst hij
      rw [hbi]; have := (List.getElem?_eq_some_iff.1 hbi).1; rw [if_pos this]
    · rfl
theorem MapO.pushed {m : List (K × V)} {bs : List Nat} {clock : Nat} {w' : World} {es : Array MapEntry} {a : K} {v : V} (hs : es.toList.map (·.key) = (m.map (·.1)).map enc ∧ es.toList.map (·.val) = (m.map (·.2)).map encV ∧ es.toList.map (·.born) = bs)
    (hn : (m.map (·.1)).Nodup) (hb : bs.Nodup) (ho : ∀ b ∈ bs, b < clock) (ha : a ∉ m.map (·.1))
    (he : w'.heap[r]? = some (.map (es.push ⟨enc a, encV v, clock⟩) (clock + 1))) : MapO enc encV w' r (m ++ [(a, v)]) (bs ++ [clock]) (clock + 1) := by
  obtain ⟨h2, h3, h4⟩ := hs
  refine ⟨⟨_, he, by simp [h2], by simp [h3], by simp [h4]⟩, ?_, ?_, ?_⟩
  · rw [List.map_append, List.nodup_append]
    refine ⟨hn, by simp, fun x hx y hy => ?_⟩
    simp at hy; subst hy; rintro rfl; exact ha hx
  · rw [List.nodup_append]
    refine ⟨hb, by simp, fun x hx y hy => ?_⟩
    simp at hy; subst hy; have := ho x hx; omega
  · intro b hb'
    rcases List.mem_append.1 hb' with h | h
    · have := ho b h; omega
    · simp at h; omega
theorem MapO.erased {m : List (K × V)} {bs : List Nat} {clock : Nat} {w' : World} {es : Array MapEntry} {i : Nat} (hs : es.toList.map (·.key) = (m.map (·.1)).map enc ∧ es.toList.map (·.val) = (m.map (·.2)).map encV ∧ es.toList.map (·.born) = bs)
    (hn : (m.map (·.1)).Nodup) (hb : bs.Nodup) (ho : ∀ b ∈ bs, b < clock)
    (he : w'.heap[r]? = some (.map (es.eraseIdxIfInBounds i) clock)) (hi : i < m.length) : MapO enc encV w' r (m.eraseIdx i) (bs.eraseIdx i) clock := by
  obtain ⟨h2, h3, h4⟩ := hs
  have hsz : i < es.size := by
    have := congrArg List.length h2
    simp at this; omega
  have e0 : (es.eraseIdxIfInBounds i).toList = es.toList.eraseIdx i := by simp [Array.eraseIdxIfInBounds, hsz]
  have em : ∀ {α β : Type} (l : List α) (f : α → β) (i : Nat), (l.eraseIdx i).map f = (l.map f).eraseIdx i := fun l f i => by
    induction l generalizing i with
    | nil => simp
    | cons x xs ih => cases i with
      | zero => simp
      | succ i => simp [ih]
  refine ⟨⟨_, he, ?_, ?_, ?_⟩, ?_, ?_, ?_⟩
  · rw [e0, em, em, em, h2]
  · rw [e0, em, em, em, h3]
  · rw [e0, em, h4]
  · rw [em]; exact hn.sublist (List.eraseIdx_sublist _ _)
  · exact hb.sublist (List.eraseIdx_sublist _ _)
  · exact fun b hb' => ho b (List.mem_of_mem_eraseIdx hb')
theorem found {m : List (K × V)} {es : Array MapEntry} {bs : List Nat} (T : KeyOk P kt enc) (hs : es.toList.map (·.key) = (m.map (·.1)).map enc ∧ es.toList.map (·.val) = (m.map (·.2)).map encV ∧ es.toList.map (·.born) = bs) (hn : (m.map (·.1)).Nodup) (a : K) (w : World) :
    (∃ i e v, ixOf (m.map (·.1)) a 0 = some i ∧ es[i]? = some e ∧ e.key = enc a ∧ e.val = encV v ∧ lget m a = some v ∧ bs[i]? = some e.born ∧ i < m.length ∧ (Instr.findKey kt (enc a) es.toList).run P w = .ok (some (i, encV v)) w) ∨
    (a ∉ m.map (·.1) ∧ lget m a = none ∧ (Instr.findKey kt (enc a) es.toList).run P w = .ok none w) := by
  obtain ⟨h2, h3, h4⟩ := hs
  have hfind := T.find es.toList (m.map (·.1)) a w h2
  rw [ix_val h3 hn] at hfind
  cases hi : ixOf (m.map (·.1)) a 0 with
  | none =>
    right
    rw [hi] at hfind
    exact ⟨ixOf_none hi, lget_none (ixOf_none hi), hfind⟩
  | some i =>
    left
    have hk := ix_lt hi
    obtain ⟨kv, hkv, hke⟩ : ∃ kv, m[i]? = some kv ∧ kv.1 = a := by
      rw [List.getElem?_map] at hk
      cases hm : m[i]? with
      | none => rw [hm] at hk; cases hk
      | some kv => rw [hm] at hk; simp at hk; exact ⟨kv, rfl, hk⟩
    obtain ⟨k, v⟩ := kv
    simp only at hke; subst hke
    have hl := lget_at hn hkv
    have hlen : i < es.toList.length := by
      have := congrArg List.length h2
      have h5 := (List.getElem?_eq_some_iff.1 hkv).1
      simp at this ⊢; omega
    have c2 := congrArg (·[i]?) h2
    have c3 := congrArg (·[i]?) h3
    have c4 := congrArg (·[i]?) h4
    simp only [List.getElem?_map, hkv, List.getElem?_eq_getElem hlen, Option.map_some, Option.some.injEq] at c2 c3 c4
    refine ⟨i, es.toList[i], v, rfl, ?_, c2, c3, hl, c4.symm, (List.getElem?_eq_some_iff.1 hkv).1, ?_⟩
    · rw [← Array.getElem?_toList]; exact List.getElem?_eq_getElem hlen
    · rw [hi] at hfind; rw [hfind, hl]; rfl
theorem keyStays (T : KeyOk P kt enc) (a : K) (w : World) : (Instr.keyThatStays (enc a) (enc a)).run P w = .ok (enc a) w := by
  simp [Instr.keyThatStays, T.same]
theorem MapF.update (T : MapT P t kt et enc encV z) (h : MapF enc encV z w r f) (a : K) (v : V) :
    ∃ w', Sem.run P (Instr.mapUpdate t (.map (some r)) (enc a) (encV v)) w = .ok () w' ∧ MapF enc encV z w' r (upd f a v) ∧ But r w w' := by
  obtain ⟨m, bs, c, ⟨⟨es, h1, hs⟩, hn, hb, ho⟩, hf⟩ := h
  have hg : (getObj r).run P w = .ok (.map es c) w := by simp [getObj, Sem.run, h1]
  rcases found T.key hs hn a w with ⟨i, e, u, hi, he, hek, hev, hl, hbi, hilt, hfind⟩ | ⟨hna, hl, hfind⟩
  · have hkey : (((es[i]?).map (·.key)).getD (enc a)) = enc a := by rw [he]; exact hek
    refine ⟨_, ?_, ⟨m.set i (a, v), bs, c, MapO.setAt hs hn hb ho (ix_lt hi) hbi (setObj_heap h1), fun b => ?_⟩, setObj_but _ _ _⟩
    · simp only [Instr.mapUpdate, Sem.run_bind, run_underlying T.und, Result.andThen_ok, hg, T.key.chk, hfind, hkey, keyStays T.key]
      have : (es.modify i fun e => { e with key := enc a, val := encV v }) = es.setIfInBounds i ⟨enc a, encV v, e.born⟩ := by
        apply Array.ext_getElem?; intro j
        rw [Array.getElem?_modify, Array.getElem?_setIfInBounds]
        by_cases hij : i = j
        · subst hij
          rw [if_pos rfl, if_pos rfl, he]
          have := (Array.getElem?_eq_some_iff.1 he).1
          rw [if_pos this]; rfl
        · rw [if_neg hij, if_neg hij]
      rw [this, setObj_run h1]
    · rw [lget_set hn (ix_lt hi), upd, ← hf]; split <;> rfl
  · refine ⟨_, ?_, ⟨m ++ [(a, v)], bs ++ [c], c + 1, MapO.pushed hs hn hb ho hna (setObj_heap h1), fun b => ?_⟩, setObj_but _ _ _⟩
    · simp only [Instr.mapUpdate, Sem.run_bind, run_underlying T.und, Result.andThen_ok, hg, T.key.chk, hfind]
      rw [setObj_run h1]
    · rw [lget_append, upd, ← hf]
      by_cases hba : b = a
      · subst hba; rw [hl, if_pos rfl]; simp [lget]
      · rw [if_neg hba]; cases lget m b <;> simp [lget, hba]
theorem MapF.delete (T : MapT P t kt et enc encV z) (h : MapF enc encV z w r f) (a : K) (ty : TypeId) (tk : TypeId) :
    ∃ w', Sem.run P (Builtin.delete_ #[t, tk] ty #[.map (some r), enc a]) w = .ok (.tuple #[]) w' ∧ MapF enc encV z w' r (upd f a z) ∧ But r w w' := by
  obtain ⟨m, bs, c, ⟨⟨es, h1, hs⟩, hn, hb, ho⟩, hf⟩ := h
  have hg : (getObj r).run P w = .ok (.map es c) w := by simp [getObj, Sem.run, h1]
  rcases found T.key hs hn a w with ⟨i, e, u, hi, he, hek, hev, hl, hbi, hilt, hfind⟩ | ⟨hna, hl, hfind⟩
  · refine ⟨_, ?_, ⟨m.eraseIdx i, bs.eraseIdx i, c, MapO.erased hs hn hb ho (setObj_heap h1) hilt, fun b => ?_⟩, setObj_but _ _ _⟩
    · simp [Builtin.delete_, run_underlying T.und, hg, T.key.chk, hfind, setObj_run h1]
    · rw [lget_erase hn (ix_lt hi), upd, ← hf]; split <;> rfl
  · refine ⟨_, ?_, ⟨m, bs, c, ⟨⟨es, setObj_heap h1, hs⟩, hn, hb, ho⟩, fun b => ?_⟩, setObj_but _ _ _⟩
    · simp [Builtin.delete_, run_underlying T.und, hg, T.key.chk, hfind, setObj_run h1]
    · rw [upd, ← hf]
      by_cases hba : b = a
      · subst hba; rw [hl, if_pos rfl]; rfl
      · rw [if_neg hba]
theorem MapF.entry (T : MapT P t kt et enc encV z) (h : MapF enc encV z w r f) (a : K) :
    ∃ (st : Nat) (w' : World), Sem.run P (Instr.mapEntry t (.map (some r)) (enc a)) w = .ok (.tuple #[encV (f a), .int .i64 (st : Int)]) w' ∧ MapSt enc encV z w' r f a st ∧ But r w w' := by
  obtain ⟨m, bs, c, ⟨⟨es, h1, hs⟩, hn, hb, ho⟩, hf⟩ := h
  have hg : (getObj r).run P w = .ok (.map es c) w := by simp [getObj, Sem.run, h1]
  rcases found T.key hs hn a w with ⟨i, e, u, hi, he, hek, hev, hl, hbi, hilt, hfind⟩ | ⟨hna, hl, hfind⟩
  · have hkey : (((es[i]?).map (·.key)).getD (enc a)) = enc a := by rw [he]; exact hek
    have hfa : f a = u := by rw [← hf a, hl]; rfl
    refine ⟨e.born, _, ?_, ⟨m, bs, c, i, ⟨⟨es, setObj_heap h1, hs⟩, hn, hb, ho⟩, hf, ix_lt hi, hbi⟩, setObj_but _ _ _⟩
    simp only [Instr.mapEntry, Sem.run_bind, run_underlying T.und, Result.andThen_ok, hg, T.key.chk, hfind, hkey, keyStays T.key]
    have : (es.modify i fun e => { e with key := enc a }) = es := by
      apply Array.ext_getElem?; intro j
      rw [Array.getElem?_modify]
      by_cases hij : i = j
      · subst hij
        rw [if_pos rfl, he]; simp only [Option.map_some, Option.some.injEq]; rw [← hek]
      · rw [if_neg hij]
    rw [this, setObj_run h1]
    simp only [Result.andThen_ok, Sem.run_pure, he, Option.map_some, Option.getD_some, hfa, goInt]
  · have hfa : f a = z := by rw [← hf a, hl]; rfl
    refine ⟨c, _, ?_, ⟨m ++ [(a, z)], bs ++ [c], c + 1, m.length, MapO.pushed hs hn hb ho hna (setObj_heap h1), fun b => ?_, ?_, ?_⟩, setObj_but _ _ _⟩
    · simp only [Instr.mapEntry, Sem.run_bind, run_underlying T.und, Result.andThen_ok, hg, T.key.chk, hfind, T.zer, setObj_run h1, Sem.run_pure, hfa, goInt]
    · rw [lget_append, ← hf]
      by_cases hba : b = a
      · subst hba; rw [hl]; simp [lget]
      · cases lget m b <;> simp [lget, hba]
    · simp
    · have : bs.length = m.length := by
        have e1 := congrArg List.length hs.1
        have e2 := congrArg List.length hs.2.2
        simp at e1 e2; omega
      rw [List.getElem?_append_right (by omega), this]; simp
theorem nodup_ne : ∀ {bs : List Nat} {j i st : Nat}, bs.Nodup → j < i → bs[j]? = some st → bs[i]? = some st → False
  | [], _, _, _, _, _, h, _ => by simp at h
  | b :: bs, 0, i + 1, st, hb, _, h1, h2 => by
    simp at h1; subst h1
    simp only [List.getElem?_cons_succ] at h2
    exact (List.nodup_cons.1 hb).1 (List.mem_of_getElem? h2)
  | b :: bs, j + 1, i + 1, st, hb, hj, h1, h2 => by
    simp only [List.getElem?_cons_succ] at h1 h2
    exact nodup_ne (List.nodup_cons.1 hb).2 (by omega) h1 h2
  | _ :: _, 0, 0, _, _, h, _, _ => by omega
  | _ :: _, _ + 1, 0, _, _, h, _, _ => by omega
theorem findIdx_born {es : Array MapEntry} {bs : List Nat} {i st : Nat} (h4 : es.toList.map (·.born) = bs) (hb : bs.Nodup) (hi : bs[i]? = some st) :
    es.findIdx? (fun e => (e.born : Int) == (st : Int)) = some i := by
  have hlt : i < es.size := by
    have := congrArg List.length h4
    have h5 := (List.getElem?_eq_some_iff.1 hi).1
    simp at this; omega
  rw [Array.findIdx?_eq_some_iff_getElem]
  have hget : ∀ j (hj : j < es.size), bs[j]? = some es[j].born := fun j hj => by
    rw [← h4, List.getElem?_map, Array.getElem?_toList, Array.getElem?_eq_getElem hj]; rfl
  refine ⟨hlt, ?_, fun j hj => ?_⟩
  · have := hget i hlt; rw [hi] at this; simp at this; simp [this]
  · have h1 := hget j (by omega)
    simp only [beq_iff_eq, Int.natCast_inj]
    intro e
    rw [e] at h1
    exact nodup_ne hb hj h1 hi
theorem MapSt.store {a : K} {st : Nat} (h : MapSt enc encV z w r f a st) (v : V) :
    ∃ w', Sem.run P (Instr.entryStore t (.map (some r)) (.int .i64 (st : Int)) (encV v)) w = .ok () w' ∧ MapF enc encV z w' r (upd f a v) ∧ But r w w' := by
  obtain ⟨m, bs, c, i, ⟨⟨es, h1, hs⟩, hn, hb, ho⟩, hf, hi, hbi⟩ := h
  have hg : (getObj r).run P w = .ok (.map es c) w := by simp [getObj, Sem.run, h1]
  have hfi := findIdx_born hs.2.2 hb hbi
  have hlt : i < es.size := by
    have e1 := congrArg List.length hs.1
    have h5 := (List.getElem?_eq_some_iff.1 hi).1
    simp at e1 h5; omega
  have hek : es[i].key = enc a := by
    have := congrArg (·[i]?) hs.1
    simp only [List.getElem?_map, Array.getElem?_toList] at this
    rw [Array.getElem?_eq_getElem hlt] at this
    rw [List.getElem?_map] at hi
    rw [hi] at this; simpa using this
  have heb : es[i].born = st := by
    have := congrArg (·[i]?) hs.2.2
    simp only [List.getElem?_map, Array.getElem?_toList] at this
    rw [Array.getElem?_eq_getElem hlt, hbi] at this; simpa using this
  refine ⟨_, ?_, ⟨m.set i (a, v), bs, c, MapO.setAt hs hn hb ho hi hbi (setObj_heap h1), fun b => ?_⟩, setObj_but _ _ _⟩
  · have hst : (asInt (.int .i64 (st : Int))).run P w = .ok (st : Int) w := by simp [asInt, asIntOf]
    simp only [Instr.entryStore, Sem.run_bind, Result.andThen_ok, hg, hst, hfi]
    have : (es.modify i fun e => { e with val := encV v }) = es.setIfInBounds i ⟨enc a, encV v, st⟩ := by
      apply Array.ext_getElem?; intro j
      rw [Array.getElem?_modify, Array.getElem?_setIfInBounds]
      by_cases hij : i = j
      · subst hij
        rw [if_pos rfl, if_pos rfl, Array.getElem?_eq_getElem hlt, if_pos hlt]
        simp only [Option.map_some, Option.some.injEq]
        rw [← hek, ← heb]
      · rw [if_neg hij, if_neg hij]
    rw [this, setObj_run h1]
  · rw [lget_set hn hi, upd, ← hf]; split <;> rfl
theorem MapF.make (encV : V → Value) (z : V) (w : World) : ∃ w', Sem.run P (Instr.makeMap t none) w = .ok (.map (some w.heap.size)) w' ∧ MapF enc encV z w' w.heap.size (fun _ => z) ∧ Ext w w' := by
  refine ⟨w.alloc (.map #[] 0), ?_, ⟨[], [], 0, ⟨⟨#[], heap_alloc_new w _, rfl, rfl, rfl⟩, by simp, by simp, by simp⟩, fun _ => rfl⟩, (Below.refl _ _).alloc (Nat.le_refl _) _⟩
  simp [Instr.makeMap, newObj, Sem.run]
end
/-! ### Keys -/
section
variable {P : Program} {kt : TypeId}
def eK (a : Int) : Value := .int .i64 a
def eK2 (a : Int × Int) : Value := .agg #[.int .i64 a.1, .int .i64 a.2]
theorem findAsking_run {K : Type} [DecidableEq K] {enc : K → Value} (heq : ∀ a b w, (Op.equal kt (enc a) (enc b)).run P w = .ok (decide (a = b)) w) (a : K) (w : World) :
    ∀ (es : List MapEntry) (ks : List K) (i : Nat), es.map (·.key) = ks.map enc → (Instr.findAsking kt (enc a) es i).run P w = .ok ((ixOf ks a i).bind fun j => (es[j - i]?).map fun e => (j, e.val)) w
  | [], ks, i, h => by
    have : ks = [] := by cases ks <;> simp at h; rfl
    subst this; rfl
  | e :: es, [], i, h => by simp at h
  | e :: es, k :: ks, i, h => by
    simp only [List.map_cons, List.cons.injEq] at h
    have ih := findAsking_run heq a w es ks (i + 1) h.2
    rw [Instr.findAsking, h.1]
    simp only [Sem.run_bind, heq, Result.andThen_ok]
    by_cases hak : a = k
    · simp [hak, ixOf]
    · simp only [hak, decide_false, Bool.false_eq_true, if_false, ih, ixOf]
      cases hj : ixOf ks a (i + 1) with
      | none => rfl
      | some j =>
        have := (ixOf_some hj).1
        simp only [Option.bind_some]
        rw [show j - i = (j - (i + 1)) + 1 by omega, List.getElem?_cons_succ]
theorem findNow_int (k : IntKind) (a : Int) : ∀ (es : List MapEntry) (ks : List Int) (i : Nat), es.map (·.key) = ks.map eK → Instr.findNow (.int k) (eK a) es i = some ((ixOf ks a i).bind fun j => (es[j - i]?).map fun e => (j, e.val))
  | [], ks, i, h => by
    have : ks = [] := by cases ks <;> simp at h; rfl
    subst this; rfl
  | e :: es, [], i, h => by simp at h
  | e :: es, b :: ks, i, h => by
    simp only [List.map_cons, List.cons.injEq] at h
    have ih := findNow_int k a es ks (i + 1) h.2
    rw [Instr.findNow, h.1]
    by_cases hak : a = b
    · subst hak; simp [eK, Instr.sameNow, ixOf]
    · have hs : Instr.sameNow (.int k) (eK a) (eK b) = some false := by simp [eK, Instr.sameNow, hak]
      rw [hs]
      simp only [ih, ixOf, hak, if_false]
      cases hj : ixOf ks a (i + 1) with
      | none => rfl
      | some j =>
        have := (ixOf_some hj).1
        simp only [Option.bind_some]
        rw [show j - i = (j - (i + 1)) + 1 by omega, List.getElem?_cons_succ]
theorem keyInt (hu : P.underlying kt = some (.int .i64)) : KeyOk P kt eK where
  chk e a w := by
    show (Instr.checkKey e (9999 + 1) kt (eK a)).run P w = _
    rw [Instr.checkKey]; simp [run_underlying hu, eK]
  find es ks a w h := by
    have := findNow_int .i64 a es ks 0 h
    simp only [Instr.findKey, Sem.run_bind, run_underlying hu, Result.andThen_ok, this, Sem.run_pure, Nat.sub_zero]
  same a := by
    show Instr.sameBits (9999 + 1) _ _ = true
    simp [Instr.sameBits, eK]
theorem equal_pair {fs : Array Field} (hu : P.underlying kt = some (.struct fs)) (hp : P.stoodInHeld kt = false) (hf : fsOk P fs.toList 0 [.int .i64, .int .i64] = true) (a b : Int × Int) (w : World) :
    (Op.equal kt (eK2 a) (eK2 b)).run P w = .ok (decide (a = b)) w := by
  have hfs : P.fieldsOf kt = fs := by simp [Program.fieldsOf, hu]
  show (Op.equalIn (9999 + 1) kt (.agg #[.int .i64 a.1, .int .i64 a.2]) (.agg #[.int .i64 b.1, .int .i64 b.2])).run P w = _
  rw [run_equalIn_struct w 9999 kt _ _ (by rw [hfs]; exact hu) hp, hfs]
  have := eqFields_run (P := P) (xs := #[.int .i64 a.1, .int .i64 a.2]) (ys := #[.int .i64 b.1, .int .i64 b.2]) 9998 w fs.toList 0 _ [.int .i64 a.1, .int .i64 a.2] [.int .i64 b.1, .int .i64 b.2] hf rfl rfl (fun j => by simp) (fun j => by simp)
  rw [show (9999 : Nat) = 9998 + 1 from rfl, this]
  congr 1
  rw [Bool.eq_iff_iff, decide_eq_true_eq]
  simp [eqL, eq1, Prod.ext_iff]
theorem keyPair {f0 f1 : Field} (hu : P.underlying kt = some (.struct #[f0, f1])) (hp : P.stoodInHeld kt = false) (hf : fsOk P [f0, f1] 0 [.int .i64, .int .i64] = true) : KeyOk P kt eK2 where
  chk e a w := by
    simp only [fsOk, Bool.and_eq_true, decide_eq_true_eq] at hf
    obtain ⟨⟨⟨hn0, ho0⟩, hb0⟩, ⟨⟨hn1, ho1⟩, hb1⟩, _⟩ := hf
    have ho0 := Nat.eq_of_beq_eq_true ho0
    have ho1 := Nat.eq_of_beq_eq_true ho1
    have ck : ∀ (t : TypeId) (v : Int), basicOk P t (.int .i64) = true → (Instr.checkKey e 9999 t (.int .i64 v)).run P w = .ok () w := fun t v h => by
      unfold basicOk at h
      split at h
      · rename_i h1 _; show (Instr.checkKey e (9998 + 1) t (.int .i64 v)).run P w = _; rw [Instr.checkKey]; simp [run_underlying h1]
      · rename_i h2; cases h2
      · rename_i h2; cases h2
      · cases h
    have p0 := basic_part (P := P) hb0 (xs := #[.int .i64 a.1, .int .i64 a.2]) (i := f0.offset) (v := .int .i64 a.1) (by rw [ho0]; rfl) w
    have p1 := basic_part (P := P) hb1 (xs := #[.int .i64 a.1, .int .i64 a.2]) (i := f1.offset) (v := .int .i64 a.2) (by rw [ho1]; rfl) w
    show (Instr.checkKey e (9999 + 1) kt (eK2 a)).run P w = _
    rw [Instr.checkKey]
    simp only [Sem.run_bind, run_underlying hu, Result.andThen_ok, eK2]
    simp [p0, p1, ck _ _ hb0, ck _ _ hb1, hn0, hn1]
  find es ks a w h := by
    cases es with
    | nil =>
      have : ks = [] := by cases ks <;> simp at h; rfl
      subst this
      simp [Instr.findKey, run_underlying hu, Instr.findNow, ixOf]
    | cons e es =>
      have hk : e.key = eK2 (ks.headD (0, 0)) := by
        cases ks with
        | nil => simp at h
        | cons k ks => simp only [List.map_cons, List.cons.injEq] at h; exact h.1
      have hnow : Instr.findNow (.struct #[f0, f1]) (eK2 a) (e :: es) 0 = none := by rw [Instr.findNow, hk]; rfl
      have := findAsking_run (P := P) (kt := kt) (enc := eK2) (fun a b w => equal_pair (fs := #[f0, f1]) hu hp hf a b w) a w (e :: es) ks 0 h
      simp only [Instr.findKey, Sem.run_bind, run_underlying hu, Result.andThen_ok, hnow, this, Nat.sub_zero]
  same a := by
    show Instr.sameBits (9998 + 1 + 1) (.agg #[.int .i64 a.1, .int .i64 a.2]) (.agg #[.int .i64 a.1, .int .i64 a.2]) = true
    simp [Instr.sameBits]
def pairOk (P : Program) (kt : TypeId) : Bool := (match P.underlying kt with | some (.struct fs) => (match fs.toList with | [f0, f1] => fsOk P [f0, f1] 0 [.int .i64, .int .i64] | _ => false) | _ => false) && !P.stoodInHeld kt
theorem pairOk.ok (h : pairOk P kt = true) : KeyOk P kt eK2 := by
  simp only [pairOk, Bool.and_eq_true, Bool.not_eq_true'] at h
  obtain ⟨h, hp⟩ := h
  split at h
  · rename_i fs hu
    split at h
    · rename_i f0 f1 hf
      have : fs = #[f0, f1] := by apply Array.ext'; rw [hf]
      subst this
      exact keyPair hu hp h
    · cases h
  · cases h
end
end Go.V

namespace Go.V
open Go.RowKit (Below)
abbrev OwnM (ρ : Type) := Nat → Option ρ
abbrev SL := Option Addr × Nat × Nat
def sblk (s : SL) : Option Nat := (Value.slice s.1 s.2.1 s.2.2).ownBlock
def setOwn {ρ : Type} (own : OwnM ρ) (o : Option Nat) (r : ρ) : OwnM ρ := fun k => if o = some k then some r else own k
structure Upd {ρ : Type} (own own' : OwnM ρ) (r : ρ) (w w' : World) : Prop where
  os : w'.os = w.os
  tape : w'.tape = w.tape
  output : w'.output = w.output
  size : w.heap.size ≤ w'.heap.size
  block : ∀ k, k < w.heap.size → own k ≠ some r → w'.heap[k]? = w.heap[k]?
  same : ∀ k, k < w.heap.size → own' k = own k
  top : (∀ k, w.heap.size ≤ k → own k = none) → ∀ k, w'.heap.size ≤ k → own' k = none
structure Fr {ρ : Type} (own own' : OwnM ρ) (w w' : World) : Prop where
  os : w'.os = w.os
  tape : w'.tape = w.tape
  output : w'.output = w.output
  size : w.heap.size ≤ w'.heap.size
  block : ∀ k, k < w.heap.size → own k = none → w'.heap[k]? = w.heap[k]?
  free : ∀ k, k < w.heap.size → own k = none → own' k = none
section
variable {ρ : Type} {own own' own'' : OwnM ρ} {r : ρ} {w w' w'' : World}
theorem Upd.fr (h : Upd own own' r w w') : Fr own own' w w' :=
  ⟨h.os, h.tape, h.output, h.size, fun k hk hn => h.block k hk (by rw [hn]; simp), fun k hk hn => by rw [h.same k hk]; exact hn⟩
theorem Fr.refl (own : OwnM ρ) (w : World) : Fr own own w w := ⟨rfl, rfl, rfl, Nat.le_refl _, fun _ _ _ => rfl, fun _ _ h => h⟩
theorem Fr.of_ext (own : OwnM ρ) (h : Ext w w') : Fr own own w w' := ⟨h.os, h.tape, h.output, h.size, fun k hk _ => h.block k hk, fun _ _ h => h⟩
theorem Fr.trans (h : Fr own own' w w') (k : Fr own' own'' w' w'') : Fr own own'' w w'' :=
  ⟨k.os.trans h.os, k.tape.trans h.tape, k.output.trans h.output, Nat.le_trans h.size k.size,
    fun i hi hn => (k.block i (Nat.lt_of_lt_of_le hi h.size) (h.free i hi hn)).trans (h.block i hi hn), fun i hi hn => k.free i (Nat.lt_of_lt_of_le hi h.size) (h.free i hi hn)⟩
theorem Upd.of_but {b : Nat} (h : But b w w') (hb : own b = some r) : Upd own own r w w' :=
  ⟨h.os, h.tape, h.output, by rw [h.size]; exact Nat.le_refl _, fun k _ hk => h.block k (fun e => hk (e ▸ hb)), fun _ _ => rfl, fun ht k hk => ht k (by rw [← h.size]; exact hk)⟩
theorem Upd.of_grown {row row' : Option Nat} (h : w.grownBy w' row) (hr : ∀ k, row = some k → own k = some r) (hn : row' = row ∨ ∃ g, row' = some g ∧ w.heap.size ≤ g) (hl : ∀ k, row' = some k → k < w'.heap.size) :
    Upd own (setOwn own row' r) r w w' := by
  refine ⟨h.os, h.tape, h.output, h.size, fun k hk hne => h.block k hk (fun e => hne (hr k e.symm)), fun k hk => ?_, fun ht k hk => ?_⟩
  · unfold setOwn; split
    · rename_i e
      rcases hn with hn | ⟨g, hg, hge⟩
      · exact (hr k (hn ▸ e)).symm
      · rw [hg] at e; cases e; omega
    · rfl
  · unfold setOwn; split
    · rename_i e; have := hl k e; omega
    · exact ht k (Nat.le_trans h.size hk)
def RowR {α : Type} (own : OwnM ρ) (r : ρ) (e : TypeId) (sz : Nat) (enc : α → List Value) (w : World) (s : SL) (xs : List α) : Prop :=
  OwnR 0 e sz enc w s.1 s.2.1 s.2.2 xs ∧ ∀ k, sblk s = some k → own k = some r
theorem RowR.nil {α : Type} (own : OwnM ρ) (r : ρ) (e : TypeId) (sz : Nat) (enc : α → List Value) (w : World) : RowR own r e sz enc w (none, 0, 0) ([] : List α) := ⟨OwnR.nil _ _ _ _ _, fun k hk => by cases hk⟩
theorem RowR.upd {α : Type} {r2 : ρ} {e : TypeId} {sz : Nat} {enc : α → List Value} {s : SL} {xs : List α} (h : RowR own r2 e sz enc w s xs) (u : Upd own own' r w w') (hne : r2 ≠ r) : RowR own' r2 e sz enc w' s xs :=
  ⟨h.1.kept fun k hk => u.block k (h.1.lt k hk).2 (by rw [h.2 k hk]; simpa using hne), fun k hk => by rw [u.same k (h.1.lt k hk).2]; exact h.2 k hk⟩
theorem RowR.ext {α : Type} {r2 : ρ} {e : TypeId} {sz : Nat} {enc : α → List Value} {s : SL} {xs : List α} (h : RowR own r2 e sz enc w s xs) (k : Ext w w') : RowR own r2 e sz enc w' s xs := ⟨h.1.ext k, h.2⟩
theorem RowR.frame {α : Type} {r2 : ρ} {e : TypeId} {sz : Nat} {enc : α → List Value} {s : SL} {xs : List α} (h : RowR own r2 e sz enc w s xs) (k : ∀ b, b < w.heap.size → own b ≠ none → w'.heap[b]? = w.heap[b]?) : RowR own r2 e sz enc w' s xs :=
  ⟨h.1.kept fun b hb => k b (h.1.lt b hb).2 (by rw [h.2 b hb]; simp), h.2⟩
theorem RowR.len {α : Type} {e : TypeId} {sz : Nat} {enc : α → List Value} {s : SL} {xs : List α} (h : RowR own r e sz enc w s xs) : s.2.1 = xs.length := h.1.1
theorem RowR.at_ {α : Type} {e : TypeId} {sz : Nat} {enc : α → List Value} {s : SL} {xs : List α} (h : RowR own r e sz enc w s xs) (he : ∀ x, (enc x).length = sz) {i : Nat} (hi : i < xs.length) :
    ∃ g l c, s = (some ⟨g, 0, none⟩, l, c) ∧ own g = some r ∧ g < w.heap.size ∧ ∀ j, j < sz → w.cell? ⟨g, i * sz + j, none⟩ = (enc xs[i])[j]? := by
  obtain ⟨g, ha, _, hg, hc⟩ := h.1.cellAt he (List.getElem?_eq_getElem hi)
  obtain ⟨a, l, c⟩ := s
  simp only at ha; subst ha
  exact ⟨g, l, c, rfl, h.2 g rfl, hg, hc⟩
theorem RowR.push {α : Type} {P : Program} {t ty e te : TypeId} {sz bytes : Nat} {enc : α → List Value} {s : SL} {xs : List α} (x : α) (H : SlT P t e sz bytes) (h : RowR own r e sz enc w s xs)
    (he : ∀ x, (enc x).length = sz) (h1 : ∀ x u, u ∈ enc x → u.oneCell' = true) (hlen : (xs.length + 1) * bytes ≤ 140737488355328) {cs : Array Value} (hcs : cs = (enc x).toArray) {F : Option Addr → Nat → Nat → World → Prop}
    (k : ∀ s' w', RowR (setOwn own (sblk s') r) r e sz enc w' s' (xs ++ [x]) → Upd own (setOwn own (sblk s') r) r w w' → F s'.1 s'.2.1 s'.2.2 w') :
    AllocK w cs te fun b w1 => ∃ a' l' c' w2, Sem.run P (Builtin.append_ #[t, t] ty #[.slice s.1 s.2.1 s.2.2, .slice (some b) 1 1]) w1 = .ok (.slice a' l' c') w2 ∧ F a' l' c' w2 := by
  refine OwnR.push x H h.1 (Nat.zero_le _) he h1 hlen hcs fun a' c' w' ho hg hn => ?_
  have hu : Upd own (setOwn own (sblk (a', xs.length + 1, c')) r) r w w' := Upd.of_grown hg h.2 hn (fun k hk => (ho.lt k hk).2)
  refine k (a', xs.length + 1, c') w' ⟨ho, fun g hg => ?_⟩ hu
  unfold setOwn; rw [if_pos hg]
theorem RowR.set {α : Type} {e : TypeId} {sz : Nat} {enc : α → List Value} {g l c : Nat} {xs ys : List α} (h : RowR own r e sz enc w (some ⟨g, 0, none⟩, l, c) xs) (i : Nat) (v : Value) (hi : i < xs.length * sz)
    (hl : ys.length = xs.length) (hys : (xs.flatMap enc).set i v = ys.flatMap enc) {F : World → Prop}
    (k : ∀ w', RowR own r e sz enc w' (some ⟨g, 0, none⟩, l, c) ys → Upd own own r w w' → F w') : SetK w ⟨g, i, none⟩ v F :=
  OwnR.set h.1 i v hi hl hys fun w' ho hbut => k w' ⟨ho, h.2⟩ (Upd.of_but hbut (h.2 g rfl))
theorem MapF.upd {K V : Type} [DecidableEq K] {enc : K → Value} {encV : V → Value} {z : V} {m : Nat} {f : K → V} (h : MapF enc encV z w m f) {r2 : ρ} (hm : own m = some r2) (u : Upd own own' r w w') (hne : r2 ≠ r) : MapF enc encV z w' m f :=
  h.heap (u.block m h.lt (by rw [hm]; simpa using hne))
theorem Blk.upd {b t : Nat} {cs : Array Value} (h : Blk w b cs t) {r2 : ρ} (hb : own b = some r2) (u : Upd own own' r w w') (hne : r2 ≠ r) : Blk w' b cs t :=
  (u.block b h.lt (by rw [hb]; simpa using hne)).trans h
theorem Fr.blk {b t : Nat} {cs : Array Value} (h : Blk w b cs t) (f : Fr own own' w w') (hb : own b = none) : Blk w' b cs t := (f.block b h.lt hb).trans h
end
end Go.V

namespace Go.V
open Go.RowKit (Below)
theorem MapSt.heap {K V : Type} [DecidableEq K] {enc : K → Value} {encV : V → Value} {z : V} {w w' : World} {r : Nat} {f : K → V} {a : K} {st : Nat} (h : MapSt enc encV z w r f a st) (k : w'.heap[r]? = w.heap[r]?) : MapSt enc encV z w' r f a st := by
  obtain ⟨m, bs, c, i, h1, h2, h3⟩ := h
  exact ⟨m, bs, c, i, h1.heap k, h2, h3⟩
theorem MapSt.lt {K V : Type} [DecidableEq K] {enc : K → Value} {encV : V → Value} {z : V} {w : World} {r : Nat} {f : K → V} {a : K} {st : Nat} (h : MapSt enc encV z w r f a st) : r < w.heap.size := by
  obtain ⟨m, bs, c, i, ⟨⟨es, he, _⟩, _⟩, _⟩ := h
  exact (Array.getElem?_eq_some_iff.1 he).1
def RowT {ρ : Type} (own : OwnM ρ) (r : ρ) (e : TypeId) (w : World) (s : SL) (xs : List Int) : Prop :=
  (s = (none, 0, 0) ∧ xs = []) ∨ ∃ g o c cur, s = (some ⟨g, o, none⟩, xs.length, c) ∧ xs.length ≤ c ∧ own g = some r ∧ Blk w g cur e ∧ o + c ≤ cur.size ∧ ∀ i, i < xs.length → cur[o + i]? = (xs[i]?).map fun x => Value.int .i64 x
section
variable {ρ : Type} {own own' : OwnM ρ} {r r2 : ρ} {w w' : World} {e : TypeId} {s : SL} {xs : List Int}
theorem RowT.nil (own : OwnM ρ) (r : ρ) (e : TypeId) (w : World) : RowT own r e w (none, 0, 0) [] := .inl ⟨rfl, rfl⟩
theorem RowT.len (h : RowT own r e w s xs) : s.2.1 = xs.length := by
  rcases h with ⟨rfl, rfl⟩ | ⟨g, o, c, cur, rfl, _⟩ <;> rfl
theorem RowT.owns (h : RowT own r e w s xs) : ∀ k, sblk s = some k → own k = some r := by
  rcases h with ⟨rfl, rfl⟩ | ⟨g, o, c, cur, rfl, _, ho, _⟩
  · intro k hk; cases hk
  · intro k hk; cases hk; exact ho
theorem RowT.lt (h : RowT own r e w s xs) : ∀ k, sblk s = some k → k < w.heap.size := by
  rcases h with ⟨rfl, rfl⟩ | ⟨g, o, c, cur, rfl, _, ho, hb, _⟩
  · intro k hk; cases hk
  · intro k hk; cases hk; exact hb.lt
theorem RowT.frame (h : RowT own r e w s xs) (k : ∀ b, b < w.heap.size → own b ≠ none → w'.heap[b]? = w.heap[b]?) : RowT own r e w' s xs := by
  rcases h with h | ⟨g, o, c, cur, rfl, hl, ho, hb, rest⟩
  · exact .inl h
  · exact .inr ⟨g, o, c, cur, rfl, hl, ho, (k g hb.lt (by rw [ho]; simp)).trans hb, rest⟩
theorem RowT.ext (h : RowT own r e w s xs) (k : Ext w w') : RowT own r e w' s xs := h.frame fun b hb _ => k.block b hb
theorem RowT.upd (h : RowT own r2 e w s xs) (u : Upd own own' r w w') (hne : r2 ≠ r) : RowT own' r2 e w' s xs := by
  rcases h with h | ⟨g, o, c, cur, rfl, hl, ho, hb, rest⟩
  · exact .inl h
  · exact .inr ⟨g, o, c, cur, rfl, hl, by rw [u.same g hb.lt]; exact ho, (u.block g hb.lt (by rw [ho]; simpa using hne)).trans hb, rest⟩
theorem RowT.at_ (h : RowT own r e w s xs) {i : Nat} (hi : i < xs.length) : ∃ g o, s.1 = some ⟨g, o, none⟩ ∧ w.cell? ⟨g, o + i, none⟩ = some (.int .i64 xs[i]) := by
  rcases h with ⟨rfl, rfl⟩ | ⟨g, o, c, cur, rfl, hl, ho, hb, hc, hx⟩
  · simp at hi
  · exact ⟨g, o, rfl, by rw [hb.cell, hx i hi, List.getElem?_eq_getElem hi]; rfl⟩
theorem RowT.tail {a : Option Addr} {l c : Nat} {x : Int} (h : RowT own r e w (a, l, c) (x :: xs)) : 1 ≤ l ∧ l ≤ c ∧ RowT own r e w (if c = 1 then a else a.map (·.add 1), l - 1, c - 1) xs := by
  rcases h with ⟨_, h⟩ | ⟨g, o, c', cur, hs, hl, ho, hb, hc, hx⟩
  · cases h
  · simp only [Prod.mk.injEq] at hs
    obtain ⟨rfl, rfl, rfl⟩ := hs
    simp only [List.length_cons] at hl hx ⊢
    refine ⟨by omega, hl, .inr ?_⟩
    by_cases h1 : c = 1
    · rw [if_pos h1]
      exact ⟨g, o, c - 1, cur, rfl, by omega, ho, hb, by omega, fun i hi => by omega⟩
    · rw [if_neg h1]
      refine ⟨g, o + 1, c - 1, cur, by simp [add_mk], by omega, ho, hb, by omega, fun i hi => ?_⟩
      have := hx (i + 1) (by omega)
      rw [show o + 1 + i = o + (i + 1) by omega, this]; rfl
theorem RowT.ofOwn {base : Nat} {a : Option Addr} {l c : Nat} (h : OwnR base e 1 eI w a l c xs) (ho : ∀ k, sblk (a, l, c) = some k → own k = some r) : RowT own r e w (a, l, c) xs := by
  obtain ⟨hl, h1, h2⟩ := h
  rcases h2 with ⟨h0, hn⟩ | ⟨g, cap, cur, hv, hbg, hg, h3, h4, h5, h6⟩
  · cases h0; left; exact ⟨rfl, List.length_eq_zero_iff.1 hn⟩
  · simp only [Value.slice.injEq] at hv
    obtain ⟨rfl, rfl, rfl⟩ := hv
    refine .inr ⟨g, 0, c, cur, rfl, h3, ho g rfl, hg, by omega, fun i hi => ?_⟩
    have := congrArg (·[i]?) h6
    simp only [Nat.mul_one] at this
    rw [List.getElem?_take_of_lt hi, Array.getElem?_toList] at this
    rw [Nat.zero_add, this]
    have e2 := enc_get (enc := eI) eI_len (i := i) (j := 0) (List.getElem?_eq_getElem hi) (by omega)
    simp only [Nat.mul_one, Nat.add_zero] at e2
    rw [e2, List.getElem?_eq_getElem hi]; rfl
theorem RowT.push {P : Program} {t ty : TypeId} {bytes : Nat} (x : Int) (H : SlT P t e 1 bytes) (h : RowT own r e w s xs) (hlen : (xs.length + 1) * bytes ≤ 140737488355328) {b c2 : Nat} (hb : w.cell? ⟨b, 0, none⟩ = some (.int .i64 x)) :
    ∃ s' w', Sem.run P (Builtin.append_ #[t, t] ty #[.slice s.1 s.2.1 s.2.2, .slice (some ⟨b, 0, none⟩) 1 c2]) w = .ok (.slice s'.1 s'.2.1 s'.2.2) w' ∧
      RowT (setOwn own (sblk s') r) r e w' s' (xs ++ [x]) ∧ Upd own (setOwn own (sblk s') r) r w w' := by
  have hnews : ∀ j u, [Value.int .i64 x][j]? = some u → w.cell? ((⟨b, 0, none⟩ : Addr).add j) = some u := fun j u hj => by
    cases j with
    | zero => simp at hj; subst hj; rw [add_mk]; exact hb
    | succ j => simp at hj
  obtain ⟨i, z, hi, hz, hsz, hby, hzs⟩ := H.info
  have h63 : xs.length + 1 ≤ maxLen := by
    have := Nat.le_mul_of_pos_right (xs.length + 1) H.posB
    simp only [maxLen]; omega
  have viaOwn : ∀ {a : Option Addr} {l c : Nat}, OwnR 0 e 1 eI w a l c xs → s = (a, l, c) → ∃ s' w', Sem.run P (Builtin.append_ #[t, t] ty #[.slice s.1 s.2.1 s.2.2, .slice (some ⟨b, 0, none⟩) 1 c2]) w = .ok (.slice s'.1 s'.2.1 s'.2.2) w' ∧
      RowT (setOwn own (sblk s') r) r e w' s' (xs ++ [x]) ∧ Upd own (setOwn own (sblk s') r) r w w' := by
    rintro a l c hO rfl
    obtain ⟨a', c', w', q1, q2, q3, q4⟩ := OwnR.appendN (ty := ty) H (xs := xs) (ys := [x]) hO (Nat.zero_le _) eI_len eI_one ⟨b, 0, none⟩ c2 (fun j u hj => hnews j u (by simpa [eI] using hj)) hlen
    refine ⟨(a', xs.length + 1, c'), w', q1, RowT.ofOwn q2 fun k hk => by unfold setOwn; rw [if_pos hk], Upd.of_grown q3 h.owns ?_ (fun k hk => (q2.lt k hk).2)⟩
    rcases q4 with q4 | q4
    · exact .inl q4
    · exact .inr ⟨_, q4, Nat.le_refl _⟩
  rcases h with ⟨rfl, rfl⟩ | ⟨g, o, c, cur, rfl, hl, ho, hB, hc, hx⟩
  · exact viaOwn (OwnR.nil _ _ _ _ _) rfl
  · by_cases hroom : xs.length + 1 ≤ c
    · have hro := run_append_room_cells (P := P) w t ty e i H.under hi g o xs.length c ⟨b, 0, none⟩ 1 c2 [.int .i64 x] (by simp [hsz]) hnews (by simp [Value.oneCell']) hroom
        (fun j hj => by simp at hj; subst hj; rw [hsz, hB.cell, Array.getElem?_eq_getElem (by omega)]; rfl) (fun j hj => hB.frozen _)
      refine ⟨(some ⟨g, o, none⟩, xs.length + 1, c), _, hro, ?_, ?_⟩
      · refine .inr ⟨g, o, c, cur.setIfInBounds (o + xs.length) (.int .i64 x), by simp, by simpa using hroom, by show (if some g = some g then some r else own g) = some r; rw [if_pos rfl], ?_, by simpa using hc, fun j hj => ?_⟩
        · rw [hsz, Nat.mul_one]; exact heap_setCell_same w g (o + xs.length) cur e _ hB
        · simp only [List.length_append, List.length_singleton] at hj
          rw [Array.getElem?_setIfInBounds]
          by_cases hj2 : j = xs.length
          · subst hj2; rw [if_pos rfl, if_pos (by omega), List.getElem?_append_right (Nat.le_refl _)]; simp
          · rw [if_neg (by omega), hx j (by omega), List.getElem?_append_left (by omega)]
      · have hbut : But g w (w.setCells g (o + xs.length * i.size) [.int .i64 x]) := ⟨rfl, rfl, rfl, by simp [World.setCells], fun k hk => heap_setCell_other w _ k _ hk⟩
        have hu := Upd.of_but hbut ho
        have : setOwn own (sblk (some ⟨g, o, none⟩, xs.length + 1, c)) r = own := by
          funext k; unfold setOwn; split
          · rename_i e1; have e1 : some g = some k := e1; cases e1; exact ho.symm
          · rfl
        rw [this]; exact hu
    · have hxs : (xs.map fun x => Value.int .i64 x).length = xs.length * 1 := by simp
      obtain ⟨v', w', q1, q2, q3⟩ := run_append_arg_grows (P := P) w t ty e i z 1 bytes H.under hi hz hsz hby hzs (by omega) ⟨g, o, none⟩ xs.length c (xs.map fun x => .int .i64 x) hxs (fun j u hj => by
          have hjl : j < xs.length := by have := (List.getElem?_eq_some_iff.1 hj).1; simpa using this
          rw [add_mk, hB.cell, hx j hjl]; simpa using hj) ⟨b, 0, none⟩ 1 c2 [.int .i64 x] (by simp) hnews (by omega) h63 hlen
      have hfl : (xs.map fun x => Value.int .i64 x) ++ [.int .i64 x] = (xs ++ [x]).flatMap eI := by
        have : ∀ l : List Int, (l.map fun x => Value.int .i64 x) = l.flatMap eI := fun l => by
          induction l with
          | nil => rfl
          | cons y ys ih => rw [List.map_cons, ih, List.flatMap_cons]; rfl
        rw [← this, List.map_append]; rfl
      rw [hfl] at q2
      rcases q2.2 with ⟨rfl, h0⟩ | ⟨g2, cap, cur2, rfl, hge, hh, h3, h4, h5, h6⟩
      · omega
      · refine ⟨(some ⟨g2, 0, none⟩, xs.length + 1, cap), w', q1, RowT.ofOwn (base := w.heap.size) ⟨by simp, by simpa using q2⟩ fun k hk => by unfold setOwn; rw [if_pos hk], ?_⟩
        exact Upd.of_grown (row := none) q3 (fun k hk => by cases hk) (.inr ⟨g2, rfl, hge⟩) (fun k hk => by cases hk; exact (Array.getElem?_eq_some_iff.1 hh).1)
end
end Go.V

namespace Go.V
open Go.RowKit (Below)
def putL (cur : Array Value) : Nat → List Value → Array Value
  | _, [] => cur
  | o, v :: r => putL (cur.setIfInBounds o v) (o + 1) r
theorem putL_size (cur : Array Value) : ∀ (vs : List Value) (o : Nat), (putL cur o vs).size = cur.size
  | [], _ => rfl
  | v :: r, o => by rw [putL, putL_size]; simp
theorem putL_get : ∀ (vs : List Value) (cur : Array Value) (o : Nat), o + vs.length ≤ cur.size → ∀ j, (putL cur o vs)[j]? = if o ≤ j ∧ j < o + vs.length then vs[j - o]? else cur[j]?
  | [], cur, o, _, j => by rw [putL]; rw [if_neg (by simp)]
  | v :: r, cur, o, h, j => by
    simp only [List.length_cons] at h
    rw [putL, putL_get r _ _ (by simp; omega), Array.getElem?_setIfInBounds]
    by_cases h1 : o + 1 ≤ j ∧ j < o + 1 + r.length
    · rw [if_pos h1, if_pos (by simp; omega), show j - o = (j - (o + 1)) + 1 by omega, List.getElem?_cons_succ]
    · rw [if_neg h1]
      by_cases h2 : o = j
      · subst h2; rw [if_pos rfl, if_pos (by omega), if_pos (by simp), Nat.sub_self]; rfl
      · rw [if_neg h2, if_neg (by simp; omega)]
theorem setCells_blk {g t : Nat} : ∀ (vs : List Value) (w : World) (cur : Array Value) (o : Nat), Blk w g cur t → Blk (w.setCells g o vs) g (putL cur o vs) t ∧ But g w (w.setCells g o vs)
  | [], w, cur, o, h => ⟨h, ⟨rfl, rfl, rfl, rfl, fun _ _ => rfl⟩⟩
  | v :: r, w, cur, o, h => by
    have h1 : Blk (w.setCell ⟨g, o, none⟩ v) g (cur.setIfInBounds o v) t := heap_setCell_same w g o cur t v h
    have b1 : But g w (w.setCell ⟨g, o, none⟩ v) := ⟨rfl, rfl, rfl, by simp, fun k hk => heap_setCell_other w ⟨g, o, none⟩ k v hk⟩
    obtain ⟨h2, b2⟩ := setCells_blk r _ _ (o + 1) h1
    exact ⟨h2, b1.trans b2⟩
def zOk (P : Program) (e : TypeId) : Bool := match P.info? e with | some i => (match i.zero with | some z => z.cells.all (·.oneCell') | none => false) | none => false
theorem flat_append {α : Type} {enc : α → List Value} {sz : Nat} (he : ∀ x, (enc x).length = sz) (xs : List α) (k : Nat) : (xs.flatMap enc).drop (k * sz) = (xs.drop k).flatMap enc ∧ (xs.flatMap enc).take (k * sz) = (xs.take k).flatMap enc := by
  induction xs generalizing k with
  | nil => simp
  | cons y ys ih =>
    cases k with
    | zero => simp
    | succ k =>
      rw [List.flatMap_cons, Nat.succ_mul, Nat.add_comm, List.drop_succ_cons, List.take_succ_cons, List.flatMap_cons, ← (ih k).1, ← (ih k).2, ← he y]
      exact ⟨by rw [List.drop_append, List.drop_of_length_le (by omega)]; simp, by rw [List.take_append, List.take_of_length_le (by omega)]; simp⟩
theorem OwnR.delAt {α : Type} {P : Program} {t ty ty2 e : TypeId} {sz bytes base : Nat} {enc : α → List Value} {w : World} {g l c : Nat} {xs : List α} (H : SlT P t e sz bytes) (hzo : zOk P e = true) (h : OwnR base e sz enc w (some ⟨g, 0, none⟩) l c xs)
    (he : ∀ x, (enc x).length = sz) (h1 : ∀ x u, u ∈ enc x → u.oneCell' = true) {k : Nat} (hk : k < xs.length) :
    l = xs.length ∧ l ≤ c ∧ ∃ w8 w9, Sem.run P (Builtin.append_ #[t, t] ty #[.slice (some ⟨g, 0, none⟩) k c, .slice (if c = k + 1 then some ⟨g, 0, none⟩ else some ⟨g, (k + 1) * sz, none⟩) (l - (k + 1)) (c - (k + 1))]) w = .ok (.slice (some ⟨g, 0, none⟩) (l - 1) c) w8 ∧
      Sem.run P (Builtin.clear_ #[t] ty2 #[.slice (some ⟨g, (l - 1) * sz, none⟩) 1 (c - (l - 1))]) w8 = .ok (.tuple #[]) w9 ∧ OwnR base e sz enc w9 (some ⟨g, 0, none⟩) (l - 1) c (xs.eraseIdx k) ∧ But g w w9 := by
  obtain ⟨hl, hf, ho⟩ := h
  rcases ho with ⟨h0, _⟩ | ⟨g', cap, cur, hv, hbg, hg, h3, h4, h5, h6⟩
  · cases h0
  simp only [Value.slice.injEq, Option.some.injEq, Addr.mk.injEq, and_true] at hv
  obtain ⟨rfl, hlx, rfl⟩ := hv
  subst hl
  obtain ⟨i, z, hi, hz, hsz, hby, hzs⟩ := H.info
  have hB : Blk w g cur e := hg
  refine ⟨rfl, h3, ?_⟩
  have hcs : xs.length * sz ≤ cur.size := by rw [h5]; exact Nat.mul_le_mul_right _ h3
  have hcur : ∀ j, j < xs.length * sz → cur[j]? = (xs.flatMap enc)[j]? := fun j hj => by
    rw [← h6, List.getElem?_take_of_lt hj, Array.getElem?_toList]
  let news := (xs.drop (k + 1)).flatMap enc
  have hnl : news.length = (xs.length - (k + 1)) * sz := by rw [show news = (xs.drop (k + 1)).flatMap enc from rfl, enc_len he, List.length_drop]
  have hsplit : k * sz + news.length = (xs.length - 1) * sz := by rw [hnl, ← Nat.add_mul]; congr 1; omega
  have hle1 : (xs.length - 1) * sz + sz = xs.length * sz := by rw [← Nat.succ_mul]; congr 1; omega
  have hk1 : (k + 1) * sz + news.length = xs.length * sz := by rw [hnl, ← Nat.add_mul]; congr 1; omega
  have hsrc : Src P i.size t (.slice (if c = k + 1 then some ⟨g, 0, none⟩ else some ⟨g, (k + 1) * sz, none⟩) (xs.length - (k + 1)) (c - (k + 1))) (xs.length - (k + 1)) news w := by
    by_cases hck : c = k + 1
    · rw [if_pos hck]
      have : news = [] := List.eq_nil_of_length_eq_zero (by rw [hnl, show xs.length - (k + 1) = 0 by omega, Nat.zero_mul])
      exact Src.ofSlice w H.under _ _ _ _ (by rw [hsz]; exact hnl) (fun j u hj => by rw [this] at hj; simp at hj) (fun u hu => by rw [this] at hu; cases hu)
    · rw [if_neg hck]
      refine Src.ofSlice w H.under _ _ _ _ (by rw [hsz]; exact hnl) (fun j u hj => ?_) (fun u hu => ?_)
      · have hjl : j < news.length := (List.getElem?_eq_some_iff.1 hj).1
        rw [add_mk, hB.cell, hcur _ (by omega)]
        rw [show news = (xs.flatMap enc).drop ((k + 1) * sz) from ((flat_append he xs (k + 1)).1).symm, List.getElem?_drop] at hj
        exact hj
      · obtain ⟨x, _, hx⟩ := List.mem_flatMap.1 hu
        exact h1 x u hx
  have hrun := run_append_room_src (P := P) w t t ty e i H.under hi g 0 k c _ _ news hsrc (by omega) (fun j hj => by
      rw [Nat.zero_add, hsz, hB.cell, Array.getElem?_eq_getElem (by omega)]; rfl) (fun j hj => hB.frozen _)
  rw [show k + (xs.length - (k + 1)) = xs.length - 1 by omega, Nat.zero_add, hsz] at hrun
  obtain ⟨hB8, hb8⟩ := setCells_blk (g := g) (t := e) news w cur (k * sz) hB
  have hzc : (Builtin.zeroCells z.cells 1).toList = z.cells.toList := by
    apply List.ext_getElem
    · simp [Builtin.zeroCells]
    · intro n p1 p2
      simp only [Builtin.zeroCells, Array.toList_map, List.getElem_map, Array.toList_range, List.getElem_range]
      simp only [Array.length_toList] at p2
      rw [Nat.mod_eq_of_lt p2]; simp [getElem!_pos, p2]
  have hone : ∀ v ∈ z.cells.toList, v.oneCell' = true := by
    unfold zOk at hzo; rw [hi] at hzo; simp only [hz] at hzo
    intro v hv
    rw [Array.all_eq_true'] at hzo
    exact hzo v (Array.mem_toList_iff.1 hv)
  have hzv : ∀ w, (zeroValue e).run P w = .ok z w := fun w => by simp [zeroValue, typeInfo, hi, hz]
  have hst := run_storeCells_cells (P := P) g ((xs.length - 1) * sz) z.cells.toList 0 (w.setCells g (k * sz) news) (fun j hj => by
      rw [hB8.cell, Array.getElem?_eq_getElem (by rw [putL_size]; simp only [Array.length_toList] at hj; omega)]; rfl) (fun j hj => hB8.frozen _) hone
  obtain ⟨hB9, hb9⟩ := setCells_blk (g := g) (t := e) z.cells.toList _ _ ((xs.length - 1) * sz) hB8
  refine ⟨_, _, hrun, ?_, ?_, hb8.trans hb9⟩
  · simp only [Nat.add_zero] at hst
    simp [Builtin.clear_, run_underlying H.under, hzv, hzc, hst]
  · have hel : (xs.eraseIdx k).length = xs.length - 1 := List.length_eraseIdx_of_lt hk
    have hefl : (xs.eraseIdx k).flatMap enc = (xs.flatMap enc).take (k * sz) ++ news := by
      rw [List.eraseIdx_eq_take_drop_succ, List.flatMap_append, (flat_append he xs k).2]
    refine ⟨hel.symm, ?_⟩
    rw [hel]
    refine ⟨by rw [enc_len he, hel], .inr ⟨g, c, _, rfl, hbg, hB9, by omega, h4, by rw [putL_size, putL_size]; exact h5, ?_⟩⟩
    apply List.ext_getElem?; intro j
    have ht : ((xs.flatMap enc).take (k * sz)).length = k * sz := by rw [List.length_take, enc_len he]; exact Nat.min_eq_left (Nat.mul_le_mul_right _ (by omega))
    rw [hefl]
    rcases Nat.lt_or_ge j ((xs.length - 1) * sz) with hj | hj
    · rw [List.getElem?_take_of_lt hj, Array.getElem?_toList, putL_get _ _ _ (by rw [putL_size]; simp only [Array.length_toList]; omega), if_neg (by omega), putL_get _ _ _ (by omega)]
      by_cases hjk : k * sz ≤ j
      · rw [if_pos (by omega), List.getElem?_append_right (by omega), ht]
      · rw [if_neg (by omega), List.getElem?_append_left (by omega), List.getElem?_take_of_lt (by omega), hcur _ (by omega)]
    · rw [List.getElem?_eq_none (by simp; omega), List.getElem?_eq_none (by rw [List.length_append, ht]; omega)]
theorem cloneRows {α : Type} {P : Program} {t ty e : TypeId} {sz bytes : Nat} {enc : α → List Value} {w : World} {a : Option Addr} {l c b0 : Nat} {xs : List α} {base : Nat} (H : SlT P t e sz bytes) (h : OwnR base e sz enc w a l c xs) (ha : a ≠ none)
    (he : ∀ x, (enc x).length = sz) (h1 : ∀ x u, u ∈ enc x → u.oneCell' = true) (hlen : xs.length * bytes ≤ 140737488355328) (hb : Blk w b0 #[] e) :
    ∃ a' c' w', Sem.run P (Builtin.append_ #[t, t] ty #[.slice (some ⟨b0, 0, none⟩) 0 0, .slice a l c]) w = .ok (.slice a' l c') w' ∧ OwnR b0 e sz enc w' a' l c' xs ∧ w.grownBy w' (some b0) := by
  obtain ⟨hl, hf, ho⟩ := h
  rcases ho with ⟨h0, _⟩ | ⟨g, cap, cur, hv, hbg, hg, h3, h4, h5, h6⟩
  · cases h0; exact absurd rfl ha
  simp only [Value.slice.injEq] at hv
  obtain ⟨rfl, rfl, rfl⟩ := hv
  have hO : OwnR b0 e sz enc w (some ⟨b0, 0, none⟩) 0 0 ([] : List α) := ⟨rfl, by simp, .inr ⟨b0, 0, #[], rfl, Nat.le_refl _, hb, Nat.le_refl _, by simp [maxLen], by simp, by simp⟩⟩
  obtain ⟨a', c', w', q1, q2, q3, q4⟩ := OwnR.appendN (ty := ty) H (xs := []) (ys := xs) hO (Nat.le_of_lt hb.lt) he h1 ⟨g, 0, none⟩ c (fun j u hj => by
      have hjl : j < xs.length * sz := by rw [← enc_len he]; exact (List.getElem?_eq_some_iff.1 hj).1
      rw [add_mk, Nat.zero_add, Blk.cell hg, ← Array.getElem?_toList, ← List.getElem?_take_of_lt hjl, h6]; exact hj) (by simpa using hlen)
  simp only [List.length_nil, Nat.zero_add, List.nil_append] at q1 q2
  exact ⟨a', c', w', q1, q2, q3⟩
end Go.V

namespace Go.V
open Go.RowKit (Below)
def BlkF (w : World) (b : Nat) (cs : Array Value) (t : Nat) : Prop := ∃ fz : Nat × Nat, w.heap[b]? = some (.cells cs t fz) ∧ (fz.2 = 0 ∨ cs.size ≤ fz.1)
theorem Blk.f {w : World} {b : Nat} {cs : Array Value} {t : Nat} (h : Blk w b cs t) : BlkF w b cs t := ⟨(0, 0), h, .inl rfl⟩
theorem BlkF.lt {w : World} {b : Nat} {cs : Array Value} {t : Nat} (h : BlkF w b cs t) : b < w.heap.size := by obtain ⟨_, h, _⟩ := h; exact (Array.getElem?_eq_some_iff.1 h).1
theorem BlkF.cell {w : World} {b : Nat} {cs : Array Value} {t : Nat} (h : BlkF w b cs t) (i : Nat) : w.cell? ⟨b, i, none⟩ = cs[i]? := by
  obtain ⟨_, h, _⟩ := h; simp [World.cell?, h]
theorem BlkF.frozen {w : World} {b : Nat} {cs : Array Value} {t : Nat} (h : BlkF w b cs t) {i : Nat} (hi : i < cs.size) : w.frozen? ⟨b, i, none⟩ = false := by
  obtain ⟨⟨lo, hi'⟩, h, hf⟩ := h
  simp only [World.frozen?, h, Bool.and_eq_false_iff, decide_eq_false_iff_not]
  simp only at hf
  rcases hf with hf | hf <;> omega
theorem BlkF.heap {w w' : World} {b : Nat} {cs : Array Value} {t : Nat} (h : BlkF w b cs t) (k : w'.heap[b]? = w.heap[b]?) : BlkF w' b cs t := by
  obtain ⟨fz, h, hf⟩ := h; exact ⟨fz, k.trans h, hf⟩
theorem BlkF.set1 {w : World} {b i : Nat} {cs : Array Value} {t : Nat} (h : BlkF w b cs t) (v : Value) : BlkF (w.setCell ⟨b, i, none⟩ v) b (cs.setIfInBounds i v) t ∧ But b w (w.setCell ⟨b, i, none⟩ v) := by
  obtain ⟨fz, h, hf⟩ := h
  refine ⟨⟨fz, ?_, by simpa using hf⟩, ⟨rfl, rfl, rfl, by simp, fun k hk => heap_setCell_other w ⟨b, i, none⟩ k v hk⟩⟩
  simp only [World.setCell, Array.getElem?_modify, if_true, h, Option.map_some]
  rfl
theorem BlkF.sets {g t : Nat} : ∀ (vs : List Value) (w : World) (cur : Array Value) (o : Nat), BlkF w g cur t → BlkF (w.setCells g o vs) g (putL cur o vs) t ∧ But g w (w.setCells g o vs)
  | [], w, cur, o, h => ⟨h, ⟨rfl, rfl, rfl, rfl, fun _ _ => rfl⟩⟩
  | v :: r, w, cur, o, h => by
    obtain ⟨h1, b1⟩ := h.set1 (i := o) v
    obtain ⟨h2, b2⟩ := BlkF.sets r _ _ (o + 1) h1
    exact ⟨h2, b1.trans b2⟩
theorem SetK.mkF {w : World} {b i : Nat} {cs : Array Value} {t : Nat} {v : Value} {F : World → Prop} (hb : BlkF w b cs t) (hi : i < cs.size)
    (h : ∀ w', BlkF w' b (cs.setIfInBounds i v) t → But b w w' → F w') : SetK w ⟨b, i, none⟩ v F := by
  obtain ⟨h1, h2⟩ := hb.set1 (i := i) v
  exact ⟨⟨⟨_, by rw [hb.cell, Array.getElem?_eq_getElem hi]⟩, hb.frozen hi⟩, h _ h1 h2⟩
structure Rn.Le (ρ ρ' : Rn) : Prop where
  tok : ∀ t, ρ.dom t → ρ'.dom t ∧ ρ'.blk t = ρ.blk t ∧ ρ'.off t = ρ.off t
  cap : ∀ c, ρ.cdom c → ρ'.cdom c ∧ ρ'.cap c = ρ.cap c
theorem Rn.Le.refl (ρ : Rn) : Rn.Le ρ ρ := ⟨fun _ h => ⟨h, rfl, rfl⟩, fun _ h => ⟨h, rfl⟩⟩
theorem Rn.Le.trans {a b c : Rn} (h : Rn.Le a b) (k : Rn.Le b c) : Rn.Le a c :=
  ⟨fun t ht => by obtain ⟨x1, x2, x3⟩ := h.tok t ht; obtain ⟨y1, y2, y3⟩ := k.tok t x1; exact ⟨y1, y2.trans x2, y3.trans x3⟩,
   fun d hd => by obtain ⟨x1, x2⟩ := h.cap d hd; obtain ⟨y1, y2⟩ := k.cap d x1; exact ⟨y1, y2.trans x2⟩⟩
section
variable {ρ ρ' : Rn} {m m' : AMem} {w w' w0 : World}
theorem Rn.Le.oD (l : Rn.Le ρ ρ') {o : Option Addr} (h : ρ.oD o) : ρ'.oD o ∧ o.map ρ'.a = o.map ρ.a := by
  cases o with
  | none => exact ⟨ρ'.oD_none, rfl⟩
  | some p =>
    obtain ⟨h1, h2, h3⟩ := l.tok _ (h p rfl)
    exact ⟨fun q hq => by cases hq; exact h1, by simp [Rn.a, h2, h3]⟩
theorem Rn.Le.cD (l : Rn.Le ρ ρ') {c : Nat} (h : ρ.cD c) : ρ'.cD c ∧ ρ'.c c = ρ.c c := by
  rcases h with h | h
  · exact ⟨.inl h, by rw [ρ.c_lit h, ρ'.c_lit h]⟩
  · obtain ⟨h1, h2⟩ := l.cap _ h
    exact ⟨.inr h1, by unfold Rn.c; rw [h2]⟩
theorem VR.mono (l : Rn.Le ρ ρ') {u v : Value} (h : VR ρ u v) : VR ρ' u v := by
  induction h with
  | bool b => exact .bool b
  | int k n => exact .int k n
  | string s => exact .string s
  | pointer o ho => obtain ⟨h1, h2⟩ := l.oD ho; rw [← h2]; exact .pointer o h1
  | slice o n c hl ho hc =>
    obtain ⟨h1, h2⟩ := l.oD ho
    obtain ⟨h3, h4⟩ := l.cD hc
    rw [← h2, ← h4]; exact .slice o n c (by rw [h4]; exact hl) h1 h3
  | empty a c => exact .empty a c
  | map o ho =>
    cases o with
    | none => exact .map none fun t h => by cases h
    | some t =>
      obtain ⟨h1, h2, _⟩ := l.tok t (ho t rfl)
      have := VR.map (ρ := ρ') (some t) fun t' h => by cases h; exact h1
      simpa [h2] using this
  | func f xs ys xs' ys' h1 h2 _ _ ih1 ih2 => exact .func f xs ys xs' ys' h1 h2 ih1 ih2
  | nilFunc => exact .nilFunc
  | nilIface => exact .nilIface
  | agg xs ys h1 _ ih => exact .agg xs ys h1 ih
  | tuple xs ys h1 _ ih => exact .tuple xs ys h1 ih
theorem LR.mono (l : Rn.Le ρ ρ') {xs ys : List Value} (h : LR ρ xs ys) : LR ρ' xs ys := ⟨h.len, fun i u v a b => (h.at_ i u v a b).mono l⟩
theorem ER.mono (l : Rn.Le ρ ρ') {e e' : Env} (h : ER ρ e e') : ER ρ' e e' := fun t u ht => by obtain ⟨v, hv, r⟩ := h t u ht; exact ⟨v, hv, r.mono l⟩
def putO : List (Nat × AObj) → Nat → AObj → List (Nat × AObj)
  | [], t, o => [(t, o)]
  | (k, v) :: r, t, o => bif Nat.beq k t then (t, o) :: r else (k, v) :: putO r t o
theorem putO_same {l : List (Nat × AObj)} {t : Nat} {o : AObj} : look (putO l t o) t = some o := by
  induction l with
  | nil => simp [putO, look]
  | cons x r ih =>
    obtain ⟨k, v⟩ := x
    unfold putO
    cases hb : Nat.beq k t
    · simp only [cond_false, look, hb]; exact ih
    · simp [look]
theorem beq_ne {k t : Nat} (h : k ≠ t) : Nat.beq k t = false := by
  cases hb : Nat.beq k t with
  | true => exact absurd (Nat.eq_of_beq_eq_true hb) h
  | false => rfl
theorem putO_ne {l : List (Nat × AObj)} {t s : Nat} {o : AObj} (h : t ≠ s) : look (putO l t o) s = look l s := by
  induction l with
  | nil => simp [putO, look, beq_ne h]
  | cons x r ih =>
    obtain ⟨k, v⟩ := x
    unfold putO
    cases hb : Nat.beq k t
    · simp only [cond_false, look]; rw [ih]
    · have := Nat.eq_of_beq_eq_true hb
      subst this
      simp [look, beq_ne h]
def AMem.put (m : AMem) (t : Nat) (o : AObj) : AMem := { m with objs := putO m.objs t o, log := t :: m.log }
def AMem.kill (m : AMem) : Option Nat → AMem
  | none => m
  | some t => m.put t .dead
def AMem.fresh (m : AMem) (kill : Option Nat) (o : AObj) : AMem := { m.kill kill with objs := (m.next, o) :: (m.kill kill).objs, next := m.next + 1, caps := m.caps + 1 }
def AMem.new (m : AMem) (cs : List Value) (ty : Nat) : AMem := m.fresh none (.cells cs ty none)
def symI : Nat := 2147483648
def MapAt (ρ : Rn) (w : World) (r : Nat) (es : List (Value × Value)) (bs : List Nat) (clock : Nat) : Prop :=
  ∃ ents, w.heap[r]? = some (.map ents clock) ∧ ents.toList.map (·.key) = es.map (·.1) ∧ LR ρ (es.map (·.2)) (ents.toList.map (·.val)) ∧ ents.toList.map (·.born) = bs
def ObjAt (ρ : Rn) (w : World) (t : Nat) : AObj → Prop
  | .cells cs ty g => ∃ full : Array Value, BlkF w (ρ.blk t) full ty ∧ (∀ (i : Nat) (u : Value), cs[i]? = some u → ∃ v, full[ρ.off t + i]? = some v ∧ VR ρ u v) ∧ (match g with | some (s, sz) => ρ.cdom s ∧ full.size = ρ.off t + ρ.cap s * sz | none => True)
  | .amap es bs c => MapAt ρ w (ρ.blk t) es bs c
  | .iter mo since seen last => w.heap[ρ.blk t]? = some (.mapIter (mo.map ρ.blk) since seen.toArray last) ∧ ρ.off t = 0 ∧ ∀ k, mo = some k → ρ.dom k
  | .dead => True
structure Mem (w0 : World) (ρ : Rn) (m : AMem) (w : World) : Prop where
  x : Below w0.heap.size w0 w
  dom : ∀ t, ρ.dom t → t < m.next
  cdom : ∀ c, ρ.cdom c → c < symI + m.caps
  got : ∀ t o, m.get t = some o → ρ.dom t
  obj : ∀ t o, m.get t = some o → o.live = true → w0.heap.size ≤ ρ.blk t ∧ ρ.blk t < w.heap.size ∧ ObjAt ρ w t o
  apart : ∀ t t' o o', m.get t = some o → m.get t' = some o' → o.live = true → o'.live = true → ρ.blk t = ρ.blk t' → t = t'
structure Ev (w0 : World) (ρ : Rn) (m : AMem) (w : World) (ρ' : Rn) (m' : AMem) (w' : World) : Prop where
  le : Rn.Le ρ ρ'
  mem : Mem w0 ρ' m' w'
  next : m.next ≤ m'.next
  keep : ∃ l, m'.log = l ++ m.log ∧ ∀ t, t < m.next → t ∉ l → m'.get t = m.get t ∧ ∀ o, m.get t = some o → o.live = true → w'.heap[ρ.blk t]? = w.heap[ρ.blk t]?
theorem Ev.refl (h : Mem w0 ρ m w) : Ev w0 ρ m w ρ m w := ⟨Rn.Le.refl ρ, h, Nat.le_refl _, [], rfl, fun _ _ _ => ⟨rfl, fun _ _ _ => rfl⟩⟩
theorem Ev.trans {ρ1 : Rn} {m1 : AMem} {w1 : World} (hm : Mem w0 ρ m w) (h : Ev w0 ρ m w ρ1 m1 w1) (k : Ev w0 ρ1 m1 w1 ρ' m' w') : Ev w0 ρ m w ρ' m' w' := by
  obtain ⟨l1, e1, k1⟩ := h.keep
  obtain ⟨l2, e2, k2⟩ := k.keep
  refine ⟨h.le.trans k.le, k.mem, Nat.le_trans h.next k.next, l2 ++ l1, by rw [e2, e1, List.append_assoc], fun t ht hn => ?_⟩
  rw [List.mem_append, not_or] at hn
  obtain ⟨a1, a2⟩ := k1 t ht hn.2
  obtain ⟨b1, b2⟩ := k2 t (Nat.lt_of_lt_of_le ht h.next) hn.1
  refine ⟨b1.trans a1, fun o hg hl => ?_⟩
  have hb := (h.le.tok t (hm.got t _ hg)).2.1
  rw [← a2 o hg hl, ← hb]
  exact b2 o (a1.trans hg) hl
theorem Mem.c (h : Mem w0 ρ m w) : MemC ρ m w := fun t cs ty g hg i u hu => by
  obtain ⟨_, _, full, hb, hc, _⟩ := h.obj t _ hg rfl
  obtain ⟨v, hv, r⟩ := hc i u hu
  exact ⟨v, by rw [hb.cell]; exact hv, r⟩
theorem ObjAt.mono {t : Nat} {o : AObj} (l : Rn.Le ρ ρ') (hd : ρ.dom t) (h : ObjAt ρ w t o) (k : o.live = true → w'.heap[ρ.blk t]? = w.heap[ρ.blk t]?) : ObjAt ρ' w' t o := by
  obtain ⟨_, e1, e2⟩ := l.tok t hd
  cases o with
  | dead => trivial
  | cells cs ty g =>
    obtain ⟨full, hb, hc, hg⟩ := h
    refine ⟨full, by rw [e1]; exact hb.heap (k rfl), fun i u hu => ?_, ?_⟩
    · obtain ⟨v, hv, r⟩ := hc i u hu
      exact ⟨v, by rw [e2]; exact hv, r.mono l⟩
    · cases g with
      | none => trivial
      | some x =>
        obtain ⟨c1, c2⟩ := l.cap x.1 hg.1
        exact ⟨c1, by rw [e2, c2]; exact hg.2⟩
  | amap es bs c =>
    obtain ⟨ents, h1, h2, h3, h4⟩ := h
    exact ⟨ents, by rw [e1, k rfl]; exact h1, h2, h3.mono l, h4⟩
  | iter mo since seen last =>
    obtain ⟨h1, h0, h2⟩ := h
    have e3 : mo.map ρ'.blk = mo.map ρ.blk := by
      cases mo with
      | none => rfl
      | some j => simp only [Option.map_some, (l.tok j (h2 j rfl)).2.1]
    exact ⟨by rw [e1, k rfl, e3]; exact h1, e2.trans h0, fun k hk => (l.tok k (h2 k hk)).1⟩
def Rn.more (ρ : Rn) (t b off c cap : Nat) : Rn := { blk := fun s => if s = t then b else ρ.blk s, off := fun s => if s = t then off else ρ.off s, cap := fun s => if s = c then cap else ρ.cap s, dom := fun s => ρ.dom s ∨ s = t, cdom := fun s => ρ.cdom s ∨ s = c }
theorem Rn.more_le {t b off c cap : Nat} (h : ¬ ρ.dom t) (hc : ¬ ρ.cdom c) : Rn.Le ρ (ρ.more t b off c cap) := ⟨fun s hs => by
    have : s ≠ t := fun e => h (e ▸ hs)
    exact ⟨.inl hs, by simp [Rn.more, this], by simp [Rn.more, this]⟩, fun s hs => by
    have : s ≠ c := fun e => hc (e ▸ hs)
    exact ⟨.inl hs, by simp [Rn.more, this]⟩⟩
theorem Rn.more_a {t b off c cap : Nat} (ρ : Rn) : (ρ.more t b off c cap).a ⟨t, 0, none⟩ = ⟨b, off, none⟩ := by simp [Rn.a, Rn.more]
theorem Mem.fresh (h : Mem w0 ρ m w) {w1 : World} {kill : Option Nat} (hk : ∀ t0, kill = some t0 → ∃ o, m.get t0 = some o ∧ o.live = true) (hx : Below w0.heap.size w0 w1) (hs : w.heap.size ≤ w1.heap.size)
    (keep : ∀ k, k < w.heap.size → (∀ t0, kill = some t0 → k ≠ ρ.blk t0) → w1.heap[k]? = w.heap[k]?) {b off cap : Nat} (hb : b < w1.heap.size) (hb2 : w.heap.size ≤ b ∨ ∃ t0, kill = some t0 ∧ b = ρ.blk t0) {o' : AObj} (hl : o'.live = true)
    (ho : Rn.Le ρ (ρ.more m.next b off (symI + m.caps) cap) → ObjAt (ρ.more m.next b off (symI + m.caps) cap) w1 m.next o') : Ev w0 ρ m w (ρ.more m.next b off (symI + m.caps) cap) (m.fresh kill o') w1 := by
  have hn : ¬ ρ.dom m.next := fun hd => by have := h.dom _ hd; omega
  have hc : ¬ ρ.cdom (symI + m.caps) := fun hd => by have := h.cdom _ hd; omega
  have le := Rn.more_le (ρ := ρ) (t := m.next) (b := b) (off := off) (c := symI + m.caps) (cap := cap) hn hc
  have bN : (ρ.more m.next b off (symI + m.caps) cap).blk m.next = b := by simp [Rn.more]
  have bO : ∀ t, t ≠ m.next → (ρ.more m.next b off (symI + m.caps) cap).blk t = ρ.blk t := fun t ht => by simp [Rn.more, ht]
  have getK : ∀ t o, (m.kill kill).get t = some o → (m.get t = some o ∧ kill ≠ some t) ∨ (o = .dead ∧ kill = some t) := fun t o hg => by
    cases kill with
    | none => exact .inl ⟨hg, fun e => by cases e⟩
    | some t0 =>
      by_cases e : t0 = t
      · subst e
        simp only [AMem.kill, AMem.get, AMem.put, putO_same, Option.some.injEq] at hg
        exact .inr ⟨hg.symm, rfl⟩
      · simp only [AMem.kill, AMem.get, AMem.put, putO_ne e] at hg
        exact .inl ⟨hg, fun e2 => e (by cases e2; rfl)⟩
  have getN : ∀ t o, (m.fresh kill o').get t = some o → (t = m.next ∧ o = o') ∨ (t ≠ m.next ∧ m.get t = some o ∧ kill ≠ some t) ∨ (t ≠ m.next ∧ o = .dead ∧ kill = some t) := fun t o hg => by
    by_cases e : t = m.next
    · subst e
      simp only [AMem.get, AMem.fresh, look, Nat.beq_refl, cond_true, Option.some.injEq] at hg
      exact .inl ⟨rfl, hg.symm⟩
    · simp only [AMem.get, AMem.fresh, look, beq_ne (Ne.symm e), cond_false] at hg
      rcases getK t o hg with ⟨a, c⟩ | ⟨a, c⟩
      · exact .inr (.inl ⟨e, a, c⟩)
      · exact .inr (.inr ⟨e, a, c⟩)
  have other : ∀ t o, m.get t = some o → o.live = true → kill ≠ some t → w1.heap[ρ.blk t]? = w.heap[ρ.blk t]? := fun t o hg hlo hne => by
    obtain ⟨_, h2, _⟩ := h.obj t o hg hlo
    refine keep _ h2 fun t0 hk0 e => ?_
    obtain ⟨o0, g0, l0⟩ := hk t0 hk0
    exact hne (by rw [h.apart t t0 o o0 hg g0 hlo l0 e]; exact hk0)
  refine ⟨le, ⟨hx, fun t ht => ?_, fun c hc => ?_, fun t o hg => ?_, fun t o hg hlo => ?_, fun t t' o1 o2 g1 g2 l1 l2 e => ?_⟩, Nat.le_succ _, (match kill with | some t0 => [t0] | none => []), by cases kill <;> rfl, fun t ht hnl => ?_⟩
  · rcases ht with ht | ht
    · exact Nat.lt_succ_of_lt (h.dom t ht)
    · subst ht; exact Nat.lt_succ_self _
  · rcases hc with hc | hc
    · exact Nat.lt_succ_of_lt (h.cdom c hc)
    · subst hc; exact Nat.lt_succ_self _
  · rcases getN t o hg with ⟨e, _⟩ | ⟨_, hg, _⟩ | ⟨_, _, e⟩
    · exact .inr e
    · exact .inl (h.got t o hg)
    · obtain ⟨o0, g0, _⟩ := hk t e; exact .inl (h.got t o0 g0)
  · rcases getN t _ hg with ⟨rfl, rfl⟩ | ⟨hne, hg, hnk⟩ | ⟨_, rfl, _⟩
    · rw [bN]
      refine ⟨?_, hb, ho le⟩
      have := h.x.size
      rcases hb2 with h2 | ⟨t0, e0, rfl⟩
      · omega
      · obtain ⟨o0, g0, l0⟩ := hk t0 e0; exact (h.obj t0 o0 g0 l0).1
    · obtain ⟨h1, h2, h3⟩ := h.obj t o hg hlo
      rw [bO t hne]
      exact ⟨h1, by omega, h3.mono le (h.got t o hg) fun _ => other t o hg hlo hnk⟩
    · cases hlo
  · have key : ∀ t o, m.get t = some o → o.live = true → kill ≠ some t → ρ.blk t = b → False := fun t o hg hlo hnk e => by
      obtain ⟨_, h2, _⟩ := h.obj t o hg hlo
      rcases hb2 with h3 | ⟨t0, e0, rfl⟩
      · omega
      · obtain ⟨o0, g0, l0⟩ := hk t0 e0
        exact hnk (by rw [h.apart t t0 o o0 hg g0 hlo l0 e]; exact e0)
    rcases getN t _ g1 with ⟨rfl, _⟩ | ⟨n1, g1, k1⟩ | ⟨_, rfl, _⟩
    · rcases getN t' _ g2 with ⟨rfl, _⟩ | ⟨n2, g2, k2⟩ | ⟨_, rfl, _⟩
      · rfl
      · rw [bN, bO _ n2] at e; exact (key _ _ g2 l2 k2 e.symm).elim
      · cases l2
    · rcases getN t' _ g2 with ⟨rfl, _⟩ | ⟨n2, g2, k2⟩ | ⟨_, rfl, _⟩
      · rw [bN, bO _ n1] at e; exact (key _ _ g1 l1 k1 e).elim
      · rw [bO _ n1, bO _ n2] at e; exact h.apart t t' _ _ g1 g2 l1 l2 e
      · cases l2
    · cases l1
  · have hne : m.next ≠ t := by omega
    have hnk : kill ≠ some t := fun e => by subst e; exact hnl (by simp)
    refine ⟨?_, fun o hg hlo => other t o hg hlo hnk⟩
    simp only [AMem.get, AMem.fresh, look, beq_ne hne, cond_false]
    cases kill with
    | none => rfl
    | some t0 => simp only [AMem.kill, AMem.put]; exact putO_ne fun e => hnk (by rw [e])
theorem Mem.new (h : Mem w0 ρ m w) {cs vs : List Value} (r : LR ρ cs vs) (ty : Nat) {F : Addr → World → Prop} (k : ∀ ρ' w', Ev w0 ρ m w ρ' (m.new cs ty) w' → ρ'.dom m.next → F (ρ'.a ⟨m.next, 0, none⟩) w') : AllocK w vs.toArray ty F := by
  refine AllocK.mk fun b w1 hb hB hx => ?_
  have hsz : w0.heap.size ≤ w.heap.size := h.x.size
  have fin := k _ w1 (h.fresh (kill := none) (o' := .cells cs ty none) (b := b) (off := 0) (cap := 0) (fun t0 e => by cases e) (Below.trans h.x (hx.mono hsz)) hx.size (fun kk hk _ => hx.block kk hk) hB.lt (.inl (Nat.le_of_eq hb.symm)) rfl fun le => ⟨_, by simpa [Rn.more] using hB.f, fun i u hu => by
    obtain ⟨v, hv, rv⟩ := r.get hu
    exact ⟨v, by simpa [Rn.more] using hv, rv.mono le⟩, trivial⟩) (.inr rfl)
  rw [Rn.more_a] at fin; exact fin
theorem Mem.put (h : Mem w0 ρ m w) {w1 : World} {b : Nat} {o o' : AObj} (hg : m.get b = some o) (hl : o.live = true) (but : But (ρ.blk b) w w1) (hx : o'.live = true → ObjAt ρ w1 b o') : Ev w0 ρ m w ρ (m.put b o') w1 := by
  obtain ⟨h1, h2, h3⟩ := h.obj b o hg hl
  have g1 : (m.put b o').get b = some o' := putO_same
  have g2 : ∀ t, b ≠ t → (m.put b o').get t = m.get t := fun t ht => putO_ne ht
  have key : ∀ t q, (m.put b o').get t = some q → q.live = true → ∃ q', m.get t = some q' ∧ q'.live = true := fun t q hq hlq => by
    by_cases e : b = t
    · subst e; exact ⟨_, hg, hl⟩
    · rw [g2 t e] at hq; exact ⟨_, hq, hlq⟩
  refine ⟨Rn.Le.refl ρ, ⟨but.below h.x h1, h.dom, h.cdom, fun t q hq => ?_, fun t q hq hlq => ?_, fun t t' q1 q2 e1 e2 l1 l2 e => ?_⟩, Nat.le_refl _, [b], rfl, fun t ht hn => ?_⟩
  · by_cases e : b = t
    · subst e; exact h.got _ _ hg
    · rw [g2 t e] at hq; exact h.got _ _ hq
  · by_cases e : b = t
    · subst e
      rw [g1] at hq
      cases hq
      exact ⟨h1, by rw [but.size]; exact h2, hx hlq⟩
    · rw [g2 t e] at hq
      obtain ⟨k1, k2, k3⟩ := h.obj t q hq hlq
      exact ⟨k1, by rw [but.size]; exact k2, k3.mono (Rn.Le.refl ρ) (h.got t q hq) fun _ => but.block _ fun e2 => e (h.apart _ _ _ _ hg hq hl hlq e2.symm)⟩
  · obtain ⟨_, f1, f2⟩ := key _ _ e1 l1
    obtain ⟨_, f3, f4⟩ := key _ _ e2 l2
    exact h.apart t t' _ _ f1 f3 f2 f4 e
  · have hbt : b ≠ t := fun e => hn (by simp [e])
    exact ⟨g2 t hbt, fun q hq hlq => but.block _ fun e2 => hbt (h.apart _ _ _ _ hg hq hl hlq e2.symm)⟩
def setE (m : AMem) (p : Addr) (u : Value) : Option AMem :=
  match p.spot with
  | some _ => none
  | none => match m.get p.block with
    | some (.cells cs ty g) => match Nat.blt p.off cs.length with
      | true => some (m.put p.block (.cells (cs.set p.off u) ty g))
      | false => none
    | _ => none
theorem Mem.set (h : Mem w0 ρ m w) {p : Addr} {u v : Value} (hs : setE m p u = some m') (r : VR ρ u v) {F : World → Prop} (k : ∀ w', Ev w0 ρ m w ρ m' w' → F w') : SetK w (ρ.a p) v F := by
  obtain ⟨b, o, s⟩ := p
  unfold setE at hs
  split at hs
  · cases hs
  rename_i hsp
  have hsp : s = none := hsp
  subst hsp
  split at hs
  · rename_i cs ty g hg
    have hg : m.get b = some (.cells cs ty g) := hg
    split at hs
    · rename_i ho
      have ho : o < cs.length := Nat.le_of_ble_eq_true ho
      cases hs
      obtain ⟨h1, _, full, h2, h3, h4⟩ := h.obj b _ hg rfl
      have hfl : ρ.off b + o < full.size := by
        obtain ⟨v0, hv0, _⟩ := h3 o _ (List.getElem?_eq_getElem ho)
        exact (Array.getElem?_eq_some_iff.1 hv0).1
      show SetK w ⟨ρ.blk b, ρ.off b + o, none⟩ v F
      refine SetK.mkF h2 hfl fun w1 hB but => k w1 (h.put hg rfl but fun _ => ⟨_, hB, fun i x hx => ?_, ?_⟩)
      · rw [List.getElem?_set] at hx
        rw [Array.getElem?_setIfInBounds]
        by_cases e : o = i
        · subst e
          rw [if_pos rfl, if_pos ho] at hx
          cases hx
          exact ⟨v, by rw [if_pos rfl, if_pos hfl], r⟩
        · rw [if_neg e] at hx
          rw [if_neg (show ¬ ρ.off b + o = ρ.off b + i by omega)]
          exact h3 i x hx
      · cases g with
        | none => trivial
        | some x => exact ⟨h4.1, by rw [Array.size_setIfInBounds]; exact h4.2⟩
    · cases hs
  · cases hs
end
end Go.V

namespace Go.V
open Go.RowKit (Below)
section
variable {ρ ρ' : Rn} {m m' : AMem} {w w' w0 : World}
def areCells : List Cell → List Value → Bool
  | [], [] => true
  | c :: cs, u :: us => isCell c u && areCells cs us
  | _, _ => false
theorem areCells_ex {cs : List Cell} : ∀ {us vs : List Value}, areCells cs us = true → LR ρ us vs → ∀ {F : List Value → Prop}, F vs → ExCs cs F := by
  induction cs with
  | nil => intro us vs h r F k; cases us with
    | nil => rw [r.inv_nil] at k; exact k
    | cons => cases h
  | cons c cs ih =>
    intro us vs h r F k
    cases us with
    | nil => cases h
    | cons u us =>
      obtain ⟨v, vs', rfl, r1, r2⟩ := r.inv_cons
      simp only [areCells, Bool.and_eq_true] at h
      exact isCell_ex h.1 r1 (F := fun v => ExCs cs fun vs => F (v :: vs)) (ih h.2 r2 (F := fun vs => F (v :: vs)) k)
def isSh : Sh → Value → Bool
  | .one c, u => isCell c u
  | .agg cs, .agg us => areCells cs us.toList
  | .row _, .agg _ => true
  | _, _ => false
theorem isSh_ex {s : Sh} {u v : Value} (h : isSh s u = true) (r : VR ρ u v) {F : Value → Prop} (k : F v) : ExSh s F := by
  cases s with
  | one c => exact isCell_ex h r k
  | agg cs =>
    cases u <;> first | (cases h; done) | skip
    obtain ⟨ys, rfl, ra⟩ := r.agg_inv
    exact areCells_ex (us := _) h ra (F := fun vs => F (.agg vs.toArray)) (by simpa using k)
  | row n =>
    cases u <;> first | (cases h; done) | skip
    obtain ⟨ys, rfl, ra⟩ := r.agg_inv
    exact ⟨ys, k⟩
def areSh : List Sh → List Value → Bool
  | [], [] => true
  | s :: ss, u :: us => isSh s u && areSh ss us
  | _, _ => false
theorem areSh_ex {ss : List Sh} : ∀ {us vs : List Value}, areSh ss us = true → LR ρ us vs → ∀ {F : List Value → Prop}, F vs → ExShs ss F := by
  induction ss with
  | nil => intro us vs h r F k; cases us with
    | nil => rw [r.inv_nil] at k; exact k
    | cons => cases h
  | cons s ss ih =>
    intro us vs h r F k
    cases us with
    | nil => cases h
    | cons u us =>
      obtain ⟨v, vs', rfl, r1, r2⟩ := r.inv_cons
      simp only [areSh, Bool.and_eq_true] at h
      exact isSh_ex h.1 r1 (F := fun v => ExShs ss fun vs => F (v :: vs)) (ih h.2 r2 (F := fun vs => F (v :: vs)) k)
def isR : List Sh → Value → Bool
  | [s], u => isSh s u
  | [], .tuple us => us.isEmpty
  | s :: s2 :: ss, .tuple us => areSh (s :: s2 :: ss) us.toList
  | _, _ => false
theorem isR_ex {rs : List Sh} {u v : Value} (h : isR rs u = true) (r : VR ρ u v) {F : Value → Prop} (k : F v) : ExR rs F := by
  match rs, h with
  | [], h =>
    cases u <;> first | (cases h; done) | skip
    obtain ⟨ys, rfl, ra⟩ := r.tuple_inv
    simp only [isR, Array.isEmpty_iff] at h
    subst h
    have : ys = #[] := by apply Array.ext'; exact ra.inv_nil
    subst this
    exact k
  | [s], h => exact isSh_ex h r k
  | s :: s2 :: ss, h =>
    cases u <;> first | (cases h; done) | skip
    obtain ⟨ys, rfl, ra⟩ := r.tuple_inv
    exact areSh_ex (ss := s :: s2 :: ss) h ra (F := fun vs => F (.tuple vs.toArray)) (by simpa using k)
/-! ### Stores -/
theorem oneR {u v : Value} (r : VR ρ u v) (h : u.oneCell' = true) : v.oneCell' = true := by
  cases r <;> first | rfl | (cases h; done)
theorem onesR {us : List Value} : ∀ {vs : List Value}, LR ρ us vs → oneCells us = true → oneCells vs = true := by
  induction us with
  | nil => intro vs r _; rw [r.inv_nil]; rfl
  | cons u us ih =>
    intro vs r h
    obtain ⟨v, vs', rfl, r1, r2⟩ := r.inv_cons
    simp only [oneCells, Bool.and_eq_true] at h ⊢
    exact ⟨oneR r1 h.1, ih r2 h.2⟩
def setsE : List Value → AMem → Addr → Nat → Option AMem
  | [], m, _, _ => some m
  | u :: us, m, p, i => match setE m (p.add i) u with | some m' => setsE us m' p (i + 1) | none => none
theorem setsE_ok {us : List Value} : ∀ {vs : List Value} {m : AMem} {w : World} {p : Addr} {i : Nat}, setsE us m p i = some m' → LR ρ us vs → Mem w0 ρ m w → ∀ {F : World → Prop}, (∀ w', Ev w0 ρ m w ρ m' w' → F w') → StCs vs w (ρ.a p) i F := by
  induction us with
  | nil => intro vs m w p i h r hm F k; cases h; rw [r.inv_nil]; exact k w (Ev.refl hm)
  | cons u us ih =>
    intro vs m w p i h r hm F k
    obtain ⟨v, vs', rfl, r1, r2⟩ := r.inv_cons
    unfold setsE at h
    split at h
    · rename_i m1 h1
      show SetK w ((ρ.a p).add i) v _
      rw [Rn.a_add]
      exact hm.set h1 r1 fun w1 v1 => ih h r2 v1.mem fun w2 v2 => k w2 (Ev.trans hm v1 v2)
    · cases h
def stE (s : Sh) (u : Value) (m : AMem) (p : Addr) : Option AMem :=
  match s with
  | .one _ => match u.oneCell' with | true => setE m p u | false => none
  | .agg cs => match u with | .agg us => (match Nat.beq us.toList.length cs.length && oneCells us.toList with | true => setsE us.toList m p 0 | false => none) | _ => none
  | .row _ => none
theorem stE_ok {s : Sh} {u v : Value} {p : Addr} (h : stE s u m p = some m') (r : VR ρ u v) (hm : Mem w0 ρ m w) {F : World → Prop} (k : ∀ w', Ev w0 ρ m w ρ m' w' → F w') : stSh s v w (ρ.a p) F := by
  unfold stE at h
  split at h
  · split at h
    · rename_i h1
      show st1 v w (ρ.a p) F
      unfold st1
      rw [oneR r h1]
      exact hm.set h r k
    · cases h
  · rename_i cs
    split at h
    · rename_i us
      split at h
      · rename_i hc
        obtain ⟨ys, rfl, ra⟩ := r.agg_inv
        simp only [Bool.and_eq_true] at hc
        show (match Nat.beq ys.toList.length cs.length && oneCells ys.toList with | true => StCs ys.toList w (ρ.a p) 0 F | false => False)
        rw [← ra.len, hc.1, onesR ra hc.2]
        exact setsE_ok h ra hm k
      · cases h
    · cases h
  · cases h
def stoE (T : Tab) (t : Nat) (p u : Value) (m : AMem) : Option AMem :=
  match p, T.t t with | .pointer (some p), some i => stE i.sh u m p | _, _ => none
theorem stoE_ok {T : Tab} {t : Nat} {p u p' v : Value} (h : stoE T t p u m = some m') (rp : VR ρ p p') (r : VR ρ u v) (hm : Mem w0 ρ m w) {F : World → Prop} (k : ∀ w', Ev w0 ρ m w ρ m' w' → F w') : ptrOf p' fun p => stK T t p v w F := by
  unfold stoE at h
  split at h
  · rename_i q i hi
    cases rp
    show stK T t (ρ.a q) v w F
    unfold stK
    rw [hi]
    exact stE_ok h r hm k
  · cases h
end
end Go.V

namespace Go.V
open Go.RowKit (Below)
def bl (s : ByteArray) : List UInt8 := s.data.toList
theorem bl_append (a b : ByteArray) : bl (a ++ b) = bl a ++ bl b := by simp [bl]
theorem bl_size (s : ByteArray) : (bl s).length = s.size := by simp [bl]
theorem bl_mk (l : Array UInt8) : bl ⟨l⟩ = l.toList := rfl
theorem bl_inj {a b : ByteArray} (h : bl a = bl b) : a = b := by
  obtain ⟨⟨x⟩⟩ := a
  obtain ⟨⟨y⟩⟩ := b
  simp [bl] at h
  rw [h]
theorem bl_get (s : ByteArray) (i : Nat) : s[i]? = (bl s)[i]? := by
  by_cases h : i < s.size
  · have h2 : i < (bl s).length := by rw [bl_size]; exact h
    rw [getElem?_pos s i h, List.getElem?_eq_getElem h2]
    simp only [bl, Array.getElem_toList]; rfl
  · have h2 : (bl s).length ≤ i := by rw [bl_size]; omega
    rw [getElem?_neg s i h, List.getElem?_eq_none h2]
theorem bl_toList (s : ByteArray) : s.toList = bl s := ByteArray.toList_eq s
theorem bl_eq (s t : ByteArray) : (s.toList == t.toList) = decide (bl s = bl t) := by
  rw [bl_toList, bl_toList]
  by_cases h : bl s = bl t
  · simp [h]
  · simp [h]
theorem bl_extract (s : ByteArray) (i j : Nat) : bl (s.extract i j) = (bl s).extract i j := by
  simp [bl]
theorem run_byteString {P : Program} {src dst e : TypeId} {w : World} {b : Nat} {x : Int} {t : Nat} (hs : P.underlying src = some (.slice e)) (he : P.underlying e = some (.int .u8)) (hd : P.underlying dst = some .string) (hb : Blk w b #[.int .u8 x] t) :
    Sem.run P (convert src dst (.slice (some ⟨b, 0, none⟩) 1 1)) w = .ok (.string ⟨#[UInt8.ofNat x.toNat]⟩) w := by
  rw [run_convert_bytes_string w src dst e _ 1 1 hs he hd]
  have := run_loadCells_list (P := P) (w := w) ⟨b, 0, none⟩ [.int .u8 x] (fun j v hj => by
    rw [add_mk, Nat.zero_add, hb.cell]; simpa using hj)
  exact run_bytesToString w _ 1 1 [x] this
/-! ### Digits -/
def dg (x : Nat) : UInt8 := UInt8.ofNat (48 + x)
theorem dg_nat {x : Nat} (h : x < 10) : (dg x).toNat = 48 + x := by
  rw [dg, UInt8.toNat_ofNat']; omega
def decN (n : Nat) : List UInt8 :=
  if n < 10 then [dg n] else if n < 100 then [dg (n / 10), dg (n % 10)] else if n < 1000 then [dg (n / 10 / 10), dg (n / 10 % 10), dg (n % 10)]
  else [dg (n / 10 / 10 / 10), dg (n / 10 / 10 % 10), dg (n / 10 % 10), dg (n % 10)]
theorem decN_one {n : Nat} (h : n < 10) : decN n = [dg n] := by rw [decN, if_pos h]
theorem decN_step {n : Nat} (h : 10 ≤ n) (h2 : n < 10000) : decN n = decN (n / 10) ++ decN (n % 10) := by
  rw [decN_one (n := n % 10) (by omega)]
  unfold decN
  rw [if_neg (by omega)]
  by_cases h3 : n < 100
  · rw [if_pos h3, if_pos (by omega)]; rfl
  rw [if_neg h3]
  rw [if_neg (by omega : ¬ n / 10 < 10)]
  by_cases h4 : n < 1000
  · rw [if_pos h4, if_pos (by omega)]; rfl
  · rw [if_neg h4, if_neg (by omega), if_pos (by omega)]; rfl
theorem decN_len (n : Nat) : 1 ≤ (decN n).length ∧ (decN n).length ≤ 4 := by
  unfold decN; split
  · simp
  split
  · simp
  split <;> simp
def isD (c : UInt8) : Prop := 48 ≤ c.toNat ∧ c.toNat ≤ 57
theorem dg_d {x : Nat} (h : x < 10) : isD (dg x) := by rw [isD, dg_nat h]; omega
theorem decN_d {n : Nat} (h : n < 10000) : ∀ c ∈ decN n, isD c := by
  intro c hc
  unfold decN at hc
  split at hc
  · simp at hc; subst hc; exact dg_d (by omega)
  split at hc
  · simp at hc; rcases hc with rfl | rfl <;> exact dg_d (by omega)
  split at hc
  · simp at hc; rcases hc with rfl | rfl | rfl <;> exact dg_d (by omega)
  · simp at hc; rcases hc with rfl | rfl | rfl | rfl <;> exact dg_d (by omega)
def valL (l : List UInt8) : Nat := l.foldl (fun n c => 10 * n + (c.toNat - 48)) 0
theorem valL_snoc (l : List UInt8) (u : UInt8) : valL (l ++ [u]) = 10 * valL l + (u.toNat - 48) := by simp [valL, List.foldl_append]
theorem valL_dec {n : Nat} (h : n < 10000) : valL (decN n) = n := by
  unfold decN valL
  split
  · simp [dg_nat, *]
  split
  · simp only [List.foldl_cons, List.foldl_nil]; rw [dg_nat (by omega), dg_nat (by omega)]; omega
  split
  · simp only [List.foldl_cons, List.foldl_nil]; rw [dg_nat (by omega), dg_nat (by omega), dg_nat (by omega)]; omega
  · simp only [List.foldl_cons, List.foldl_nil]; rw [dg_nat (by omega), dg_nat (by omega), dg_nat (by omega), dg_nat (by omega)]; omega
theorem snoc_ind {α : Type} {P : List α → Prop} (h0 : P []) (h1 : ∀ l a, P l → P (l ++ [a])) (l : List α) : P l := by
  rw [← List.reverse_reverse l]
  induction l.reverse with
  | nil => exact h0
  | cons a t ih => rw [List.reverse_cons]; exact h1 _ _ ih
theorem valL_mono (l m : List UInt8) : valL l ≤ valL (l ++ m) :=
  snoc_ind (P := fun m => valL l ≤ valL (l ++ m)) (by simp) (fun m u ih => by rw [← List.append_assoc, valL_snoc]; omega) m
theorem valL_lt {l : List UInt8} (h : ∀ c ∈ l, isD c) : valL l < 10 ^ l.length := by
  revert h
  refine snoc_ind (P := fun l => (∀ c ∈ l, isD c) → valL l < 10 ^ l.length) (fun _ => by simp [valL]) (fun m u ih h => ?_) l
  have h1 := ih fun c hc => h c (List.mem_append_left _ hc)
  have h2 := h u (by simp)
  simp only [isD] at h2
  rw [valL_snoc, List.length_append, List.length_singleton, Nat.pow_succ]; omega
def seg (s : ByteArray) (i k : Nat) : List UInt8 := ((bl s).drop i).take k
theorem seg_succ {s : ByteArray} {i k : Nat} {u : UInt8} (h : (bl s)[i + k]? = some u) : seg s i (k + 1) = seg s i k ++ [u] := by
  rw [seg, seg, List.take_add_one, List.getElem?_drop, h]; rfl
theorem seg_zero (s : ByteArray) (i : Nat) : seg s i 0 = [] := by simp [seg]
structure Digs (s : ByteArray) (i k : Nat) (n : Nat) : Prop where
  le : i + k ≤ s.size
  all : ∀ c ∈ seg s i k, isD c
  val : n = valL (seg s i k)
theorem Digs.len {s : ByteArray} {i k n : Nat} (h : Digs s i k n) : (seg s i k).length = k := by
  have := h.le
  rw [seg, List.length_take, List.length_drop, bl_size]; omega
theorem Digs.lt {s : ByteArray} {i k n : Nat} (h : Digs s i k n) : n < 10 ^ k := by
  have := valL_lt h.all; rw [h.len] at this; rw [h.val]; exact this
theorem Digs.zero {s : ByteArray} {i : Nat} (h : i ≤ s.size) : Digs s i 0 0 := ⟨by omega, by simp [seg_zero], by simp [seg_zero, valL]⟩
theorem Digs.succ {s : ByteArray} {i k n : Nat} {u : UInt8} (h : Digs s i k n) (hu : (bl s)[i + k]? = some u) (hd : isD u) : Digs s i (k + 1) (10 * n + (u.toNat - 48)) := by
  have hlt : i + k < s.size := by rw [← bl_size]; exact (List.getElem?_eq_some_iff.1 hu).1
  refine ⟨by omega, ?_, ?_⟩
  · rw [seg_succ hu]
    intro c hc
    rcases List.mem_append.1 hc with hc | hc
    · exact h.all c hc
    · simp at hc; subst hc; exact hd
  · rw [seg_succ hu, valL_snoc, ← h.val]
def NoD (s : ByteArray) (j : Nat) : Prop := ∀ u, (bl s)[j]? = some u → ¬ isD u
theorem Digs.exact {s : ByteArray} {i k n v : Nat} {R : List UInt8} (h : Digs s i k n) (hv : v < 10000) (hs : (bl s).drop i = decN v ++ R) (hR : ∀ u, R.head? = some u → ¬ isD u)
    (hstop : NoD s (i + k) ∨ (k < (decN v).length → v < n)) : k = (decN v).length ∧ n = v ∧ (bl s).drop (i + k) = R := by
  have hlen := h.len
  have hle := h.le
  have hk : k ≤ (decN v).length := by
    rcases Nat.lt_or_ge (decN v).length k with hlt | hge
    · exfalso
      have h1 : (seg s i k)[(decN v).length]? = R[0]? := by
        rw [seg, hs, List.getElem?_take, if_pos hlt, List.getElem?_append_right (Nat.le_refl _), Nat.sub_self]
      rw [List.getElem?_eq_getElem (by omega)] at h1
      exact hR _ (by rw [List.head?_eq_getElem?]; exact h1.symm) (h.all _ (List.getElem_mem _))
    · exact hge
  have hseg : seg s i k = (decN v).take k := by rw [seg, hs, List.take_append_of_le_length hk]
  have hk2 : k = (decN v).length := by
    rcases Nat.lt_or_ge k (decN v).length with hlt | hge
    · exfalso
      rcases hstop with hst | hst
      · have h1 : (bl s)[i + k]? = some (decN v)[k] := by
          rw [← List.getElem?_drop, hs, List.getElem?_append_left hlt, List.getElem?_eq_getElem hlt]
        exact hst _ h1 (decN_d hv _ (List.getElem_mem _))
      · have h1 := hst hlt
        have h2 := valL_mono ((decN v).take k) ((decN v).drop k)
        rw [List.take_append_drop, valL_dec hv, ← hseg, ← h.val] at h2
        omega
    · omega
  refine ⟨hk2, ?_, ?_⟩
  · rw [h.val, hseg, hk2, List.take_length, valL_dec hv]
  · rw [← List.drop_drop, hs, hk2, List.drop_left]
end Go.V

namespace Go.V
open Go.RowKit (Below)
section
variable {ρ ρ' : Rn} {m m' : AMem} {w w' w0 : World} {P : Program}
def RunT (P : Program) (w0 : World) (ρ : Rn) (m : AMem) (w : World) (s : Sem Value) (u : Value) (m' : AMem) : Prop :=
  ∃ ρ' v w', s.run P w = .ok v w' ∧ Ev w0 ρ m w ρ' m' w' ∧ VR ρ' u v
theorem RunT.n {s : Sem Value} {u : Value} {rs : List Sh} (h : RunT P w0 ρ m w s u m') (hr : isR rs u = true) {K : Value → World → Prop} (k : ∀ ρ' v w', Ev w0 ρ m w ρ' m' w' → VR ρ' u v → K v w') : RunN P s rs K w := by
  obtain ⟨ρ', v, w', h1, h2, h3⟩ := h
  exact isR_ex hr h3 ⟨w', h1, k ρ' v w' h2 h3⟩
def plainD : Value → Bool
  | .agg cs => cs.toList.all plainV
  | v => plainV v
theorem VR.plainD {u : Value} (h : plainD u = true) : VR ρ u u := by
  unfold V.plainD at h
  split at h
  · rename_i cs
    have := VR.aggL (plainL (ρ := ρ) h)
    simpa using this
  · exact .plain h
def zeroE (P : Program) (t : Nat) : Option Value :=
  match P.info? t with
  | some i => match i.zero with | some z => (match plainD z with | true => some z | false => none) | none => none
  | none => none
theorem zeroE_ok {t : Nat} {z : Value} (h : zeroE P t = some z) : plainD z = true ∧ ∀ w, (zeroValue t).run P w = .ok z w := by
  unfold zeroE at h
  split at h
  · rename_i i hi
    split at h
    · rename_i z' hz
      split at h
      · rename_i hp; cases h; exact ⟨hp, fun w => by simp [zeroValue, typeInfo, hi, hz]⟩
      · cases h
    · cases h
  · cases h
theorem ba_beq (s t : ByteArray) : (s == t) = (s.data == t.data) := by cases s; cases t; rfl
theorem bytesEq_beq (s t : ByteArray) : bytesEq s.data.toList t.data.toList = (s == t) := by
  rw [ba_beq, Bool.eq_iff_iff, bytesEq_iff, beq_iff_eq]
  constructor
  · intro h; exact Array.ext' h
  · intro h; rw [h]
theorem bytesEq_ext {s t : ByteArray} (h : bytesEq s.data.toList t.data.toList = true) : t = s := by
  have := Array.ext' (bytesEq_iff.1 h)
  cases s; cases t; simp only [ByteArray.mk.injEq]; exact this.symm
def kindS : TypeDesc → Value → Bool
  | .int _, .int .. => true
  | .string, .string _ => true
  | .bool, .bool _ => true
  | _, _ => false
def sameE : TypeDesc → Value → Value → Option Bool
  | .int _, .int k a, .int k' b => match decide (k = k') with | true => some (a == b) | false => none
  | .string, .string a, .string b => some (bytesEq a.data.toList b.data.toList)
  | .bool, .bool a, .bool b => some (a == b)
  | _, _, _ => none
theorem sameE_ok {kd : TypeDesc} {a b : Value} {r : Bool} (h : sameE kd a b = some r) : Instr.sameNow kd a b = some r ∧ (r = true → b = a) := by
  unfold sameE at h
  split at h
  · rename_i kd' k a k' b
    split at h
    · rename_i hk
      have hk := of_decide_eq_true hk
      subst hk
      cases h
      exact ⟨by simp [Instr.sameNow], fun e => by rw [eq_of_beq e]⟩
    · cases h
  · cases h
    refine ⟨?_, fun e => by rw [bytesEq_ext e]⟩
    rw [bytesEq_beq]
    rfl
  · cases h; exact ⟨rfl, fun e => by rw [eq_of_beq e]⟩
  · cases h
def findE (kd : TypeDesc) (k : Value) : List (Value × Value) → Nat → Option (Option (Nat × Value))
  | [], _ => some none
  | e :: es, i => match sameE kd k e.1 with
    | some true => some (some (i, e.2))
    | some false => findE kd k es (i + 1)
    | none => none
theorem findE_ok {kd : TypeDesc} {k : Value} : ∀ {es : List (Value × Value)} {ents : List MapEntry} {i : Nat} {r : Option (Nat × Value)}, ents.map (·.key) = es.map (·.1) → LR ρ (es.map (·.2)) (ents.map (·.val)) → findE kd k es i = some r →
    match r with
    | none => Instr.findNow kd k ents i = some none
    | some (j, u) => ∃ v e, Instr.findNow kd k ents i = some (some (j, v)) ∧ VR ρ u v ∧ i ≤ j ∧ ents[j - i]? = some e ∧ e.key = k := by
  intro es
  induction es with
  | nil =>
    intro ents i r h1 h2 h
    cases h
    have : ents = [] := by cases ents <;> simp at h1; rfl
    subst this; rfl
  | cons e es ih =>
    intro ents i r h1 h2 h
    cases ents with
    | nil => simp at h1
    | cons d ds =>
      simp only [List.map_cons, List.cons.injEq] at h1
      obtain ⟨y, ys, e1, r1, r2⟩ := h2.inv_cons
      simp only [List.map_cons, List.cons.injEq] at e1
      unfold findE at h
      split at h
      · rename_i hs
        cases h
        obtain ⟨h3, h4⟩ := sameE_ok hs
        exact ⟨d.val, d, by rw [Instr.findNow, h1.1, h3], by rw [e1.1]; exact r1, Nat.le_refl _, by simp, by rw [h1.1]; exact h4 rfl⟩
      · rename_i hs
        obtain ⟨h3, _⟩ := sameE_ok hs
        have e2 : Instr.findNow kd k (d :: ds) i = Instr.findNow kd k ds (i + 1) := by rw [Instr.findNow, h1.1, h3]
        have hh := ih h1.2 (by rw [e1.2]; exact r2) h
        cases r with
        | none => simp only at hh ⊢; rw [e2]; exact hh
        | some p =>
          obtain ⟨v, e3, h5, h6, h7, h8, h9⟩ := hh
          refine ⟨v, e3, by rw [e2]; exact h5, h6, by omega, ?_, h9⟩
          rw [show p.1 - i = (p.1 - (i + 1)) + 1 by omega, List.getElem?_cons_succ]; exact h8
      · cases h
theorem checkS {kt : TypeId} {kd : TypeDesc} {k : Value} (hu : P.underlying kt = some kd) (h : kindS kd k = true) (e : Bool) (w : World) : (Instr.checkKey e 10000 kt k).run P w = .ok () w := by
  show (Instr.checkKey e (9999 + 1) kt k).run P w = _
  rw [Instr.checkKey]
  cases kd <;> cases k <;> first | (cases h; done) | simp [run_underlying hu]
theorem sameS {kd : TypeDesc} {k : Value} (h : kindS kd k = true) : Instr.sameBits 10000 k k = true := by
  show Instr.sameBits (9999 + 1) k k = true
  cases kd <;> cases k <;> first | (cases h; done) | (simp [Instr.sameBits]; done) | (simp only [Instr.sameBits, ba_beq]; simp)
def esE (m : AMem) : Value → Option (List (Value × Value))
  | .map none => some []
  | .map (some t) => match m.get t with | some (.amap es _ _) => some es | _ => none
  | _ => none
def lookE (P : Program) (t : Nat) (m : AMem) (x k : Value) (ok : Bool) : Option Value :=
  match P.underlying t with
  | some (.map kt et) => match P.underlying kt with
    | some kd => match kindS kd k, esE m x with
      | true, some es => match findE kd k es 0 with
        | some (some (_, v)) => some (match ok with | true => .tuple #[v, .bool true] | false => v)
        | some none => (match zeroE P et with | some z => some (match ok with | true => .tuple #[z, .bool false] | false => z) | none => none)
        | none => none
      | _, _ => none
    | none => none
  | _ => none
theorem tup2 {a b a' b' : Value} (h : VR ρ a a') (k : VR ρ b b') : VR ρ (.tuple #[a, b]) (.tuple #[a', b']) := VR.tupleL (.cons h (.cons k .nil))
theorem lookE_ok {t : Nat} {x x' k k' u : Value} {ok : Bool} (h : lookE P t m x k ok = some u) (rx : VR ρ x x') (rk : VR ρ k k') (hm : Mem w0 ρ m w) : RunT P w0 ρ m w (Instr.lookup t x' k' ok) u m := by
  unfold lookE at h
  split at h
  · rename_i kt et hu
    split at h
    · rename_i kd hk
      split at h
      · rename_i es hks hes
        have ek : k' = k := by
          cases kd <;> cases k <;> first | (cases hks; done) | (cases rk; rfl)
        subst ek
        have hE : ∃ ents : Array MapEntry, ents.toList.map (·.key) = es.map (·.1) ∧ LR ρ (es.map (·.2)) (ents.toList.map (·.val)) ∧ ∀ (v : Value) (b : Bool), (∃ j, (Instr.findKey kt k' ents.toList).run P w = .ok (some (j, v)) w ∧ b = true) ∨ ((Instr.findKey kt k' ents.toList).run P w = .ok none w ∧ (zeroValue et).run P w = .ok v w ∧ b = false) → (Instr.lookup t x' k' ok).run P w = .ok (if ok then .tuple #[v, .bool b] else v) w := by
          unfold esE at hes
          split at hes
          · cases hes; cases rx
            refine ⟨#[], rfl, .nil, fun v b hr => ?_⟩
            have hr : (∃ j, (Instr.findKey kt k' []).run P w = .ok (some (j, v)) w ∧ b = true) ∨ ((Instr.findKey kt k' []).run P w = .ok none w ∧ (zeroValue et).run P w = .ok v w ∧ b = false) := hr
            rcases hr with ⟨j, hq, hb⟩ | ⟨hq, hz, hb⟩ <;> subst hb
            · simp [Instr.lookup, run_underlying hu, checkS hk hks, hq]
            · simp [Instr.lookup, run_underlying hu, checkS hk hks, hq, hz]
          · split at hes
            · rename_i tk _ es' bs clock hg
              cases hes
              cases rx
              obtain ⟨_, _, ents, h1, h2, h3, _⟩ := hm.obj tk _ hg rfl
              have hg : (getObj (ρ.blk tk)).run P w = .ok (.map ents clock) w := by simp [getObj, Sem.run, h1]
              refine ⟨ents, h2, h3, fun v b hr => ?_⟩
              rcases hr with ⟨j, hq, hb⟩ | ⟨hq, hz, hb⟩ <;> subst hb
              · simp [Instr.lookup, run_underlying hu, hg, checkS hk hks, hq]
              · simp [Instr.lookup, run_underlying hu, hg, checkS hk hks, hq, hz]
            · cases hes
          · cases hes
        obtain ⟨ents, h2, h3, hrun⟩ := hE
        have fin : ∀ (v : Value) (b : Bool) (z : Value), VR ρ z v → (match ok with | true => some (Value.tuple #[z, .bool b]) | false => some z) = some u → (∃ j, (Instr.findKey kt k' ents.toList).run P w = .ok (some (j, v)) w ∧ b = true) ∨ ((Instr.findKey kt k' ents.toList).run P w = .ok none w ∧ (zeroValue et).run P w = .ok v w ∧ b = false) → RunT P w0 ρ m w (Instr.lookup t x' k' ok) u m := by
          intro v b z hz hu2 hr
          refine ⟨ρ, if ok then .tuple #[v, .bool b] else v, w, hrun v b hr, Ev.refl hm, ?_⟩
          cases ok <;> cases hu2
          · exact hz
          · exact tup2 hz (.bool b)
        split at h
        · rename_i j v hf
          obtain ⟨v', e, f1, f2, _⟩ := findE_ok h2 h3 hf
          exact fin v' true v f2 (by cases ok <;> exact h) (.inl ⟨j, by simp [Instr.findKey, run_underlying hk, f1], rfl⟩)
        · rename_i hf
          have f1 := findE_ok h2 h3 hf
          split at h
          · rename_i z hz
            obtain ⟨z1, z2⟩ := zeroE_ok hz
            simp only at f1
            exact fin z false z (.plainD z1) (by cases ok <;> exact h) (.inr ⟨by simp [Instr.findKey, run_underlying hk, f1], z2 w, rfl⟩)
          · cases h
        · cases h
      · cases h
    · cases h
  · cases h
def updE (P : Program) (t : Nat) (m : AMem) (x k v : Value) : Option AMem :=
  match P.underlying t, x with
  | some (.map kt _), .map (some r) => match P.underlying kt, m.get r with
    | some kd, some (.amap es bs clock) => match kindS kd k with
      | true => match findE kd k es 0 with
        | some (some (j, _)) => some (m.put r (.amap (es.set j (k, v)) bs clock))
        | some none => some (m.put r (.amap (es ++ [(k, v)]) (bs ++ [clock]) (clock + 1)))
        | none => none
      | false => none
    | _, _ => none
  | _, _ => none
theorem LR.set {xs ys : List Value} (h : LR ρ xs ys) (i : Nat) {u v : Value} (r : VR ρ u v) : LR ρ (xs.set i u) (ys.set i v) := by
  have := setR (cs := xs.toArray) (ds := ys.toArray) (by simpa using h) i r
  simpa using this
theorem LR.app {xs ys xs' ys' : List Value} (h : LR ρ xs xs') (k : LR ρ ys ys') : LR ρ (xs ++ ys) (xs' ++ ys') := ⟨by simp [h.len, k.len], fun i u v p q => by
  rcases Nat.lt_or_ge i xs.length with hi | hi
  · rw [List.getElem?_append_left hi] at p
    rw [List.getElem?_append_left (by rw [← h.len]; exact hi)] at q
    exact h.at_ i u v p q
  · rw [List.getElem?_append_right hi] at p
    rw [List.getElem?_append_right (by rw [← h.len]; exact hi), ← h.len] at q
    exact k.at_ _ u v p q⟩
theorem updE_ok {t : Nat} {x x' k k' v v' : Value} (h : updE P t m x k v = some m') (rx : VR ρ x x') (rk : VR ρ k k') (rv : VR ρ v v') (hm : Mem w0 ρ m w) :
    ∃ w', (Instr.mapUpdate t x' k' v').run P w = .ok () w' ∧ Ev w0 ρ m w ρ m' w' := by
  unfold updE at h
  split at h
  · rename_i kt et r hu
    cases rx
    split at h
    · rename_i kd es bs clock hk hg
      split at h
      · rename_i hks
        have ek : k' = k := by
          cases kd <;> cases k <;> first | (cases hks; done) | (cases rk; rfl)
        subst ek
        obtain ⟨hb, _, ents, h1, h2, h3, h4⟩ := hm.obj r _ hg rfl
        have hg1 : (getObj (ρ.blk r)).run P w = .ok (.map ents clock) w := by simp [getObj, Sem.run, h1]
        split at h
        · rename_i j u hf
          cases h
          obtain ⟨v0, e, f1, f2, _, f3, f4⟩ := findE_ok h2 h3 hf
          rw [Nat.sub_zero] at f3
          have he : ents[j]? = some e := by rw [← Array.getElem?_toList]; exact f3
          have hkey : (((ents[j]?).map (·.key)).getD k') = k' := by rw [he]; exact f4
          have hstay : (Instr.keyThatStays k' k').run P w = .ok k' w := by simp [Instr.keyThatStays, sameS hks]
          refine ⟨_, ?_, hm.put hg rfl (setObj_but w _ _) fun _ => ⟨ents.modify j fun e => { e with key := k', val := v' }, setObj_heap h1, ?_, ?_, ?_⟩⟩
          · simp only [Option.map_some, Instr.mapUpdate, Sem.run_bind, run_underlying hu, Result.andThen_ok, hg1, checkS hk hks]
            have : (Instr.findKey kt k' ents.toList).run P w = .ok (some (j, v0)) w := by simp [Instr.findKey, run_underlying hk, f1]
            simp only [this, Result.andThen_ok, Sem.run_bind, hkey, hstay, setObj_run h1]
          · rw [List.map_set]
            apply List.ext_getElem?; intro i
            rw [List.getElem?_map, Array.getElem?_toList, Array.getElem?_modify, List.getElem?_set, ← h2, List.getElem?_map, Array.getElem?_toList]
            by_cases hij : j = i
            · subst hij
              have hjl := (Array.getElem?_eq_some_iff.1 he).1
              rw [if_pos rfl, if_pos rfl, if_pos (by simpa using hjl), he]; rfl
            · rw [if_neg hij, if_neg hij]
          · rw [List.map_set]
            have e2 : (ents.modify j fun e => { e with key := k', val := v' }).toList.map (·.val) = (ents.toList.map (·.val)).set j v' := by
              apply List.ext_getElem?; intro i
              rw [List.getElem?_map, Array.getElem?_toList, Array.getElem?_modify, List.getElem?_set, List.getElem?_map, Array.getElem?_toList]
              by_cases hij : j = i
              · subst hij
                have hjl := (Array.getElem?_eq_some_iff.1 he).1
                rw [if_pos rfl, if_pos rfl, if_pos (by simpa using hjl), he]; rfl
              · rw [if_neg hij, if_neg hij]
            rw [e2]
            exact h3.set j rv
          · have e2 : (ents.modify j fun e => { e with key := k', val := v' }).toList.map (·.born) = ents.toList.map (·.born) := by
              apply List.ext_getElem?; intro i
              rw [List.getElem?_map, Array.getElem?_toList, Array.getElem?_modify, List.getElem?_map, Array.getElem?_toList]
              by_cases hij : j = i
              · subst hij; rw [if_pos rfl, he]; rfl
              · rw [if_neg hij]
            rw [e2]; exact h4
        · rename_i hf
          cases h
          have f1 := findE_ok h2 h3 hf
          simp only at f1
          refine ⟨_, ?_, hm.put hg rfl (setObj_but w _ _) fun _ => ⟨ents.push ⟨k', v', clock⟩, setObj_heap h1, ?_, ?_, ?_⟩⟩
          · simp only [Option.map_some, Instr.mapUpdate, Sem.run_bind, run_underlying hu, Result.andThen_ok, hg1, checkS hk hks]
            have : (Instr.findKey kt k' ents.toList).run P w = .ok none w := by simp [Instr.findKey, run_underlying hk, f1]
            simp only [this, Result.andThen_ok, setObj_run h1]
          · simp [h2]
          · simp only [List.map_append, Array.toList_push, List.map_cons, List.map_nil]
            exact h3.app (.cons rv .nil)
          · simp [h4]
        · cases h
      · cases h
    · cases h
  · cases h
def delE (P : Program) (t : Nat) (m : AMem) (x k : Value) : Option AMem :=
  match P.underlying t, x with
  | some (.map kt _), .map (some r) => match P.underlying kt, m.get r with
    | some kd, some (.amap es bs clock) => match kindS kd k with
      | true => match findE kd k es 0 with
        | some (some (j, _)) => some (m.put r (.amap (es.eraseIdx j) (bs.eraseIdx j) clock))
        | some none => some (m.put r (.amap es bs clock))
        | none => none
      | false => none
    | _, _ => none
  | _, _ => none
theorem LR.erase {xs ys : List Value} (h : LR ρ xs ys) (i : Nat) : LR ρ (xs.eraseIdx i) (ys.eraseIdx i) := by
  refine ⟨by simp [List.length_eraseIdx, h.len], fun j u v p q => ?_⟩
  rw [List.getElem?_eraseIdx] at p q
  split at p
  · rename_i c; rw [if_pos c] at q; exact h.at_ _ u v p q
  · rename_i c; rw [if_neg c] at q; exact h.at_ _ u v p q
theorem map_eraseIdx {α β : Type} (l : List α) (f : α → β) (i : Nat) : (l.eraseIdx i).map f = (l.map f).eraseIdx i := by
  induction l generalizing i with
  | nil => simp
  | cons x xs ih => cases i with
    | zero => simp
    | succ i => simp [ih]
theorem delE_ok {t tk ty : Nat} {x x' k k' : Value} (h : delE P t m x k = some m') (rx : VR ρ x x') (rk : VR ρ k k') (hm : Mem w0 ρ m w) :
    RunT P w0 ρ m w (Builtin.delete_ #[t, tk] ty #[x', k']) (.tuple #[]) m' := by
  unfold delE at h
  split at h
  · rename_i kt et r hu
    cases rx
    split at h
    · rename_i kd es bs clock hk hg
      split at h
      · rename_i hks
        have ek : k' = k := by
          cases kd <;> cases k <;> first | (cases hks; done) | (cases rk; rfl)
        subst ek
        obtain ⟨hb, _, ents, h1, h2, h3, h4⟩ := hm.obj r _ hg rfl
        have hg1 : (getObj (ρ.blk r)).run P w = .ok (.map ents clock) w := by simp [getObj, Sem.run, h1]
        split at h
        · rename_i j u hf
          cases h
          obtain ⟨v0, e, f1, f2, _, f3, f4⟩ := findE_ok h2 h3 hf
          rw [Nat.sub_zero] at f3
          have hjl : j < ents.size := by have := (List.getElem?_eq_some_iff.1 f3).1; simpa using this
          have e0 : (ents.eraseIdxIfInBounds j).toList = ents.toList.eraseIdx j := by simp [Array.eraseIdxIfInBounds, hjl]
          refine ⟨ρ, .tuple #[], _, ?_, hm.put hg rfl (setObj_but w _ _) fun _ => ⟨ents.eraseIdxIfInBounds j, setObj_heap h1, ?_, ?_, ?_⟩, .tuple _ _ rfl (fun i u v h => by simp at h)⟩
          · have : (Instr.findKey kt k' ents.toList).run P w = .ok (some (j, v0)) w := by simp [Instr.findKey, run_underlying hk, f1]
            simp [Builtin.delete_, run_underlying hu, hg1, checkS hk hks, this, setObj_run h1]
          · rw [e0, map_eraseIdx, map_eraseIdx, h2]
          · rw [e0, map_eraseIdx, map_eraseIdx]; exact h3.erase j
          · rw [e0, map_eraseIdx, h4]
        · rename_i hf
          cases h
          have f1 := findE_ok h2 h3 hf
          simp only at f1
          refine ⟨ρ, .tuple #[], _, ?_, hm.put hg rfl (setObj_but w _ _) fun _ => ⟨ents, setObj_heap h1, h2, h3, h4⟩, .tuple _ _ rfl (fun i u v h => by simp at h)⟩
          have : (Instr.findKey kt k' ents.toList).run P w = .ok none w := by simp [Instr.findKey, run_underlying hk, f1]
          simp [Builtin.delete_, run_underlying hu, hg1, checkS hk hks, this, setObj_run h1]
        · cases h
      · cases h
    · cases h
  · cases h
def mkMapE (P : Program) (t : Nat) (r : Option Value) (m : AMem) : Option (Value × AMem) :=
  match r with
  | none => some (.map (some m.next), m.fresh none (.amap [] [] 0))
  | some (.int _ _) => match P.underlying t with | some (.map _ _) => some (.map (some m.next), m.fresh none (.amap [] [] 0)) | _ => none
  | _ => none
theorem mkMapE_ok {t : Nat} {r r' : Option Value} {u : Value} (h : mkMapE P t r m = some (u, m')) (rr : OR ρ r r') (hm : Mem w0 ρ m w) : RunT P w0 ρ m w (Instr.makeMap t r') u m' := by
  have hx : Ext w (w.alloc (.map #[] 0)) := (Below.refl _ _).alloc (Nat.le_refl _) _
  have hg : (w.alloc (.map #[] 0)).heap[w.heap.size]? = some (.map #[] 0) := heap_alloc_new w _
  have ev := hm.fresh (kill := none) (o' := .amap [] [] 0) (b := w.heap.size) (off := 0) (cap := 0) (fun t0 e => by cases e) (Below.trans hm.x (hx.mono hm.x.size)) hx.size (fun kk hk _ => hx.block kk hk) (Array.getElem?_eq_some_iff.1 hg).1 (.inl (Nat.le_refl _)) rfl fun le => ⟨#[], by simpa [Rn.more] using hg, rfl, .nil, rfl⟩
  have fin : ∀ s : Sem Value, s.run P w = .ok (.map (some w.heap.size)) (w.alloc (.map #[] 0)) → RunT P w0 ρ m w s (.map (some m.next)) (m.fresh none (.amap [] [] 0)) := fun s hs => by
    refine ⟨_, .map (some w.heap.size), _, hs, ev, ?_⟩
    have := VR.map (ρ := ρ.more m.next w.heap.size 0 (symI + m.caps) 0) (some m.next) fun t e => by cases e; exact .inr rfl
    simpa [Rn.more] using this
  unfold mkMapE at h
  split at h
  · cases r' with
    | some _ => exact rr.elim
    | none =>
      cases h
      exact fin _ (by simp [Instr.makeMap])
  · rename_i k n
    cases r' with
    | none => exact rr.elim
    | some v =>
      have rr : VR ρ (.int k n) v := rr
      cases rr
      split at h
      · rename_i a b hu
        cases h
        exact fin _ (by simp [Instr.makeMap, run_underlying hu, asInt, asIntOf])
      · cases h
  · cases h
def lenMapE (P : Program) (t : Nat) (m : AMem) (x : Value) : Option Value :=
  match P.underlying t, esE m x with
  | some (.map _ _), some es => some (.int .i64 (es.length : Nat))
  | _, _ => none
theorem lenMapE_ok {t ty : Nat} {x x' u : Value} (h : lenMapE P t m x = some u) (rx : VR ρ x x') (hm : Mem w0 ρ m w) : RunT P w0 ρ m w (Builtin.len_ #[t] ty #[x']) u m := by
  unfold lenMapE at h
  split at h
  · rename_i kt et es hu hes
    cases h
    unfold esE at hes
    split at hes
    · cases hes; cases rx
      exact ⟨ρ, _, w, by simp [Builtin.len_, run_underlying hu, goInt], Ev.refl hm, .int _ _⟩
    · split at hes
      · rename_i tk _ es' bs clock hg
        cases hes
        cases rx
        obtain ⟨_, _, ents, h1, h2, _⟩ := hm.obj tk _ hg rfl
        have hg : (getObj (ρ.blk tk)).run P w = .ok (.map ents clock) w := by simp [getObj, Sem.run, h1]
        have hl : ents.size = es.length := by have := congrArg List.length h2; simpa using this
        exact ⟨ρ, _, w, by simp [Builtin.len_, run_underlying hu, goInt, hg, hl], Ev.refl hm, .int _ _⟩
      · cases hes
    · cases hes
  · cases h
end
end Go.V

namespace Go.V
open Go.RowKit (Below)
open Go.Lib
section
variable {ρ ρ' : Rn} {m m' : AMem} {w w' w0 : World} {P : Program}
structure Src (P : Program) (w : World) (t u e : TypeId) (sz bytes : Nat) (x : Value) (k : Nat) (news : List Value) : Prop where
  len : news.length = k * sz
  room : ∀ (ty b off l c : Nat), l + k ≤ c → (∀ j, j < news.length → (w.cell? ⟨b, off + l * sz + j, none⟩).isSome = true) → (∀ j, j < news.length → w.frozen? ⟨b, off + l * sz + j, none⟩ = false) →
    (Builtin.append_ #[t, u] ty #[.slice (some ⟨b, off, none⟩) l c, x]).run P w = .ok (.slice (some ⟨b, off, none⟩) (l + k) c) (w.setCells b (off + l * sz) news)
  grow : ∀ (ty : Nat) (a : Addr) (l c : Nat) (olds : List Value), olds.length = l * sz → (∀ j v, olds[j]? = some v → w.cell? (a.add j) = some v) → c < l + k → (l + k) * bytes ≤ 140737488355328 →
    ∃ v' w', (Builtin.append_ #[t, u] ty #[.slice (some a) l c, x]).run P w = .ok v' w' ∧ w'.ownsRow w.heap.size e sz v' (l + k) (olds ++ news) ∧ w.grownBy w' none
  nil : ∀ ty : Nat, 0 < k → k * bytes ≤ 140737488355328 → ∃ v' w', (Builtin.append_ #[t, u] ty #[.slice none 0 0, x]).run P w = .ok v' w' ∧ w'.ownsRow w.heap.size e sz v' k news ∧ w.grownBy w' none
theorem Src.ofSlice {t e : TypeId} {sz bytes : Nat} (H : SlT P t e sz bytes) {a : Addr} {k c2 : Nat} {news : List Value} (hl : news.length = k * sz) (hn : ∀ j v, news[j]? = some v → w.cell? (a.add j) = some v) (h1 : oneCells news = true) :
    Src P w t t e sz bytes (.slice (some a) k c2) k news := by
  obtain ⟨i, z, hi, hz, rfl, rfl, hzs⟩ := H.info
  refine ⟨hl, fun ty b off l c hc h2 h3 => ?_, fun ty a' l c olds ho h2 hc hb => ?_, fun ty hk hb => ?_⟩
  · exact run_append_room_cells w t ty e i H.under hi b off l c a k c2 news hl hn (oneCells_all h1) hc h2 h3
  · have h63 : l + k ≤ maxLen := by
      have := Nat.le_mul_of_pos_right (l + k) H.posB
      simp only [maxLen]; omega
    exact run_append_arg_grows w t ty e i z i.size i.bytes H.under hi hz rfl rfl hzs H.pos a' l c olds ho h2 a k c2 news hl hn hc h63 hb
  · have h63 : 0 + k ≤ maxLen := by
      have := Nat.le_mul_of_pos_right k H.posB
      simp only [maxLen]; omega
    obtain ⟨v', w', q1, q2, q3, _, _⟩ := run_append_own_at (P := P) w w.heap.size t ty e i z i.size i.bytes H.under hi hz rfl rfl hzs H.pos (.slice none 0 0) 0 [] (World.ownsRow_nil _ _ _ _) a k c2 news hl hn (oneCells_all h1) h63 (by simpa using hb) (Nat.le_refl _)
    exact ⟨v', w', q1, by simpa using q2, q3⟩
theorem Src.ofStr {t u e : TypeId} {bytes : Nat} (H : SlT P t e 1 bytes) (hu : P.underlying u = some .string) (s : ByteArray) : Src P w t u e 1 bytes (.string s) s.size (strCells s) := by
  obtain ⟨i, z, hi, hz, hsz, rfl, hzs⟩ := H.info
  have small : ∀ n, n * i.bytes ≤ 140737488355328 → n ≤ 140737488355328 := fun n h => Nat.le_trans (Nat.le_mul_of_pos_right n H.posB) h
  refine ⟨by rw [strCells_length, Nat.mul_one], fun ty b off l c hc h2 h3 => ?_, fun ty a l c olds ho h2 hc hb => ?_, fun ty hk hb => ?_⟩
  · have hf := run_firstCells_string (P := P) w i.size s
    have hst := run_storeCells_cells (P := P) b (off + l * i.size) (strCells s) 0 w (by simpa [hsz] using h2) (by simpa [hsz] using h3) (strCells_oneCell s)
    simp only [Nat.add_zero] at hst
    simp [Builtin.append_, run_underlying H.under, run_underlying hu, sizeOf, typeInfo, hi, Builtin.lenOf, hc, hf, Addr.add_lit, hst]
    simp [hsz]
  · have hk := small _ hb
    have hr := run_append_grow_string (P := P) w t u ty e i z H.under hu hi hz a l c olds (by rw [hsz]; exact ho) h2 s hc (by omega) (growslice_fits hc hb)
    have hlen : (olds ++ strCells s).length = (l + s.size) * 1 := by rw [List.length_append, ho, strCells_length]; omega
    have hge := grownCap_ge w (l + s.size) c e
    have hcm : grownCap w (l + s.size) c e ≤ maxLen := grownCap_le_maxLen w (l + s.size) c e (by simp only [maxLen]; omega)
    refine ⟨_, _, hr, ⟨hlen, .inr ⟨w.heap.size, _, _, rfl, Nat.le_refl _, heap_alloc_new w.drew _, hge, hcm, ?_, ?_⟩⟩, ⟨rfl, rfl, rfl, by simp, fun kk hkk _ => heap_alloc_old w.drew _ hkk⟩⟩
    · simp only [Array.size_append, List.size_toArray, size_zeroCells, hzs, ho, strCells_length]
      omega
    · simp only [Array.toList_append, List.append_assoc]
      rw [← List.append_assoc, ← hlen]
      exact List.take_left
  · have hk2 := small _ hb
    have hr := run_append_nil_string (P := P) w t u ty e i z H.under hu hi hz s hk (by omega) (by omega)
    have hge := grownCap_ge w s.size 0 e
    have hcm : grownCap w s.size 0 e ≤ maxLen := grownCap_le_maxLen w s.size 0 e (by simp only [maxLen]; omega)
    have ec : s.data.map (fun b => Value.int .u8 b.toNat) = (strCells s).toArray := by apply Array.ext'; simp [strCells]
    refine ⟨_, _, hr, ⟨by rw [strCells_length, Nat.mul_one], .inr ⟨w.heap.size, _, _, rfl, Nat.le_refl _, heap_alloc_new w.drew _, hge, hcm, ?_, ?_⟩⟩, ⟨rfl, rfl, rfl, by simp, fun kk hkk _ => heap_alloc_old w.drew _ hkk⟩⟩
    · rw [ec]
      simp only [Array.size_append, List.size_toArray, size_zeroCells, hzs, strCells_length]
      omega
    · rw [ec]
      simp only [Array.toList_append]
      have hl : (strCells s).length = s.size * 1 := by rw [strCells_length, Nat.mul_one]
      rw [← hl]
      exact List.take_left
theorem run_append_zero {t u e : TypeId} {sz bytes : Nat} (H : SlT P t e sz bytes) {ty : Nat} {a : Option Addr} {l c : Nat} (hlc : l ≤ c) {x : Value} (hx : (u = t ∧ ∃ b d, x = .slice b 0 d) ∨ (P.underlying u = some .string ∧ x = .string ⟨#[]⟩)) :
    (Builtin.append_ #[t, u] ty #[.slice a l c, x]).run P w = .ok (.slice a l c) w := by
  obtain ⟨i, z, hi, hz, hsz, hby, hzs⟩ := H.info
  rcases hx with ⟨rfl, b, c2, rfl⟩ | ⟨hd, rfl⟩
  · cases a <;> cases b <;> simp [Builtin.append_, run_underlying H.under, sizeOf, typeInfo, hi, hlc, Builtin.lenOf, Builtin.firstCells, loadCells, loadCellsFrom, storeCells]
  · cases a <;> simp [Builtin.append_, run_underlying H.under, run_underlying hd, sizeOf, typeInfo, hi, hlc, Builtin.lenOf, Builtin.firstCells, storeCells, ByteArray.size]
def symC (id : Nat) : Nat := id * 4294967296
theorem symC_c {ρ : Rn} {id : Nat} (h : symI ≤ id) : ρ.c (symC id) = ρ.cap id := by
  unfold Rn.c symC
  have h1 : Nat.blt (id * 4294967296) symB = false := by
    cases e : Nat.blt (id * 4294967296) symB
    · rfl
    · have := Nat.le_of_ble_eq_true e
      simp only [symI, symB] at h this; omega
  rw [h1, cond_false, Nat.mul_div_cancel _ (by omega), Nat.mul_mod_left, Nat.sub_zero]
theorem symC_d {ρ : Rn} {id : Nat} (hd : ρ.cdom id) : ρ.cD (symC id) := by
  right
  unfold symC
  rw [Nat.mul_div_cancel _ (by omega)]; exact hd
theorem Mem.grown (hm : Mem w0 ρ m w) {kill : Option Nat} (hk : ∀ t0, kill = some t0 → ∃ o, m.get t0 = some o ∧ o.live = true) {e sz n : Nat} {v : Value} {us xs : List Value} (ho : w'.ownsRow w.heap.size e sz v n xs) (hg : w.grownBy w' none) (hn : 0 < n) (r : LR ρ us xs) :
    ∃ ρ', Ev w0 ρ m w ρ' (m.fresh kill (.cells us e (some (symI + m.caps, sz)))) w' ∧ VR ρ' (.slice (some ⟨m.next, 0, none⟩) n (symC (symI + m.caps))) v := by
  have hx : Ext w w' := Ext.grown hg rfl
  obtain ⟨hl, ho⟩ := ho
  rcases ho with ⟨rfl, h0⟩ | ⟨g, cap, cur, rfl, hbg, hg2, h3, h4, h5, h6⟩
  · omega
  · have hb : Blk w' g cur e := hg2
    refine ⟨ρ.more m.next g 0 (symI + m.caps) cap, hm.fresh hk (Below.trans hm.x (hx.mono hm.x.size)) hx.size (fun k hk2 _ => hx.block k hk2) hb.lt (.inl hbg) rfl fun le => ⟨cur, by simpa [Rn.more] using hb.f, fun i u hu => ?_, .inr rfl, by simp [Rn.more, h5]⟩, ?_⟩
    · obtain ⟨v, hv, rv⟩ := r.get hu
      refine ⟨v, ?_, rv.mono le⟩
      have hi : i < n * sz := by have := (List.getElem?_eq_some_iff.1 hv).1; omega
      simp only [Rn.more, if_true, Nat.zero_add]
      rw [← h6, List.getElem?_take_of_lt hi, Array.getElem?_toList] at hv
      exact hv
    · have e1 : (ρ.more m.next g 0 (symI + m.caps) cap).c (symC (symI + m.caps)) = cap := by rw [symC_c (by omega)]; simp [Rn.more]
      have := VR.slice (ρ := ρ.more m.next g 0 (symI + m.caps) cap) (some ⟨m.next, 0, none⟩) n (symC (symI + m.caps)) (by rw [e1]; exact h3) (fun p hp => by cases hp; exact .inr rfl) (symC_d (.inr rfl))
      rw [e1] at this
      simpa [Rn.more_a] using this
def ovw (cs : List Value) (o : Nat) (us : List Value) : List Value := cs.take o ++ (us ++ cs.drop (o + us.length))
theorem ovw_get {cs us : List Value} {o : Nat} (h : o + us.length ≤ cs.length) (i : Nat) : (ovw cs o us)[i]? = if o ≤ i ∧ i < o + us.length then us[i - o]? else cs[i]? := by
  unfold ovw
  have hl : (cs.take o).length = o := by rw [List.length_take]; omega
  split
  · rename_i hc
    rw [List.getElem?_append_right (by omega), hl, List.getElem?_append_left (by omega)]
  · rename_i hc
    rcases Nat.lt_or_ge i o with hi | hi
    · rw [List.getElem?_append_left (by omega), List.getElem?_take_of_lt hi]
    · rw [List.getElem?_append_right (by omega), hl, List.getElem?_append_right (by omega), List.getElem?_drop]
      congr 1; omega
def roomB (cs : List Value) (g : Option (Nat × Nat)) (off c n sz : Nat) : Bool :=
  Nat.ble (off + n * sz) cs.length && (bif Nat.blt c symB then Nat.ble n c else match g with
    | some (s, sz') => Nat.beq (c / 4294967296) s && (Nat.beq sz' sz && Nat.beq off (c % 4294967296 * sz))
    | none => false)
def appN (e sz bytes : Nat) (o : Option Addr) (l c k : Nat) (us : List Value) (m : AMem) : Option (Value × AMem) :=
  match Nat.blt 0 k && (Nat.blt 0 sz && (Nat.beq us.length (k * sz) && Nat.ble ((l + k) * bytes) 140737488355328)) with
  | false => none
  | true => match o with
    | none => match Nat.beq l 0 && Nat.beq c 0 with
      | true => some (.slice (some ⟨m.next, 0, none⟩) k (symC (symI + m.caps)), m.fresh none (.cells us e (some (symI + m.caps, sz))))
      | false => none
    | some ⟨t, off, none⟩ => match m.get t with
      | some (.cells cs ty g) => match Nat.beq ty e && Nat.ble (off + l * sz) cs.length with
        | false => none
        | true => match roomB cs g off c (l + k) sz with
          | true => some (.slice o (l + k) c, m.put t (.cells (ovw cs (off + l * sz) us) ty g))
          | false => match Nat.blt c symB with
            | true => (match Nat.blt c (l + k) with
              | true => some (.slice (some ⟨m.next, 0, none⟩) (l + k) (symC (symI + m.caps)), m.fresh none (.cells ((cs.drop off).take (l * sz) ++ us) e (some (symI + m.caps, sz))))
              | false => none)
            | false => (match g with
              | some (s, sz') => (match Nat.beq (c / 4294967296) s && (Nat.beq sz' sz && Nat.beq off (c % 4294967296 * sz)) with
                | true => some (.slice (some ⟨m.next, 0, none⟩) (l + k) (symC (symI + m.caps)), m.fresh (some t) (.cells ((cs.drop off).take (l * sz) ++ us) e (some (symI + m.caps, sz))))
                | false => none)
              | none => none)
      | _ => none
    | _ => none
theorem sym_c {ρ : Rn} {c : Nat} (h : ¬ Nat.blt c symB = true) : ρ.c c = ρ.cap (c / 4294967296) - c % 4294967296 := by
  unfold Rn.c
  cases e : Nat.blt c symB
  · rfl
  · exact absurd e h
theorem appN_ok {t u e sz bytes : Nat} {o : Option Addr} {l c k : Nat} {us news : List Value} {y : Value} {x : Value} {ty : Nat} (h : appN e sz bytes o l c k us m = some (y, m')) (s : Src P w t u e sz bytes x k news) (r : LR ρ us news) (hm : Mem w0 ρ m w) {d : Value} (rd : VR ρ (.slice o l c) d) (hne : o ≠ some emp) :
    RunT P w0 ρ m w (Builtin.append_ #[t, u] ty #[d, x]) y m' := by
  unfold appN at h
  split at h
  · cases h
  rename_i hb
  simp only [Bool.and_eq_true] at hb
  obtain ⟨hk, hsz, _, hb⟩ := hb
  have hk : 0 < k := Nat.le_of_ble_eq_true hk
  have hsz : 0 < sz := Nat.le_of_ble_eq_true hsz
  have hb := Nat.le_of_ble_eq_true hb
  have hul : us.length = k * sz := by rw [r.len, s.len]
  cases rd with
  | empty a c2 => exact absurd rfl hne
  | slice _ _ _ hlc hod hcd =>
  split at h
  · split at h
    · rename_i hz
      simp only [Bool.and_eq_true] at hz
      have h1 := Nat.eq_of_beq_eq_true hz.1
      have h2 := Nat.eq_of_beq_eq_true hz.2
      subst h1; subst h2
      cases h
      obtain ⟨v', w', q1, q2, q3⟩ := s.nil ty hk (by simpa using hb)
      obtain ⟨ρ', ev, rv⟩ := hm.grown (kill := none) (fun t0 e => by cases e) q2 q3 hk r
      have e0 : ρ.c 0 = 0 := rfl
      exact ⟨ρ', v', w', by simpa [e0] using q1, ev, rv⟩
    · cases h
  · rename_i tk off
    split at h
    · rename_i cs ty2 g hg
      split at h
      · cases h
      rename_i ht
      simp only [Bool.and_eq_true] at ht
      have ht1 := Nat.eq_of_beq_eq_true ht.1
      subst ht1
      have hoff := Nat.le_of_ble_eq_true ht.2
      obtain ⟨hbk, hlt, full, hB, hc, hgr⟩ := hm.obj tk _ hg rfl
      -- the old cells
      have holds : ∃ olds : List Value, olds.length = l * sz ∧ (∀ j v, olds[j]? = some v → w.cell? ((ρ.a ⟨tk, off, none⟩).add j) = some v) ∧ LR ρ ((cs.drop off).take (l * sz)) olds := by
        obtain ⟨vs, r1, r2, r3⟩ : ∃ vs : List Value, LR ρ ((cs.drop off).take (l * sz)) vs ∧ vs.length = l * sz ∧ ∀ j v, vs[j]? = some v → full[ρ.off tk + (off + j)]? = some v := by
          have e1 : ((cs.drop off).take (l * sz)).length = l * sz := by rw [List.length_take, List.length_drop]; omega
          have e2 : ((full.toList.drop (ρ.off tk + off)).take (l * sz)).length = l * sz := by
            rw [List.length_take, List.length_drop]
            have e3 : full.toList.length = full.size := Array.length_toList
            rcases Nat.eq_zero_or_pos (l * sz) with h0 | h0
            · rw [h0, Nat.zero_min]
            · obtain ⟨v, hv, _⟩ := hc (off + (l * sz - 1)) _ (List.getElem?_eq_getElem (by omega))
              have := (Array.getElem?_eq_some_iff.1 hv).1
              omega
          refine ⟨(full.toList.drop (ρ.off tk + off)).take (l * sz), ⟨e1.trans e2.symm, fun i u v h1 h2 => ?_⟩, e2, fun j v hj => ?_⟩
          · have hi : i < l * sz := by have := (List.getElem?_eq_some_iff.1 h1).1; rw [e1] at this; exact this
            rw [List.getElem?_take_of_lt hi, List.getElem?_drop] at h1 h2
            obtain ⟨v', hv, rv⟩ := hc _ _ h1
            rw [Array.getElem?_toList, Nat.add_assoc, hv] at h2
            cases h2; exact rv
          · have hi : j < l * sz := by have := (List.getElem?_eq_some_iff.1 hj).1; rw [e2] at this; exact this
            rw [List.getElem?_take_of_lt hi, List.getElem?_drop, Array.getElem?_toList, Nat.add_assoc] at hj
            exact hj
        exact ⟨vs, r2, fun j v hj => by rw [Rn.a, add_mk, hB.cell, Nat.add_assoc]; exact r3 j v hj, r1⟩
      obtain ⟨olds, o1, o2, o3⟩ := holds
      have lkle : (l + k) * sz = l * sz + k * sz := Nat.add_mul _ _ _
      have hgrow : ∀ {kill : Option Nat}, (∀ t0, kill = some t0 → ∃ o, m.get t0 = some o ∧ o.live = true) → ρ.c c < l + k → ∃ ρ' v w', (Builtin.append_ #[t, u] ty #[.slice ((some ⟨tk, off, none⟩ : Option Addr).map ρ.a) l (ρ.c c), x]).run P w = .ok v w' ∧ Ev w0 ρ m w ρ' (m.fresh kill (.cells ((cs.drop off).take (l * sz) ++ us) ty2 (some (symI + m.caps, sz)))) w' ∧ VR ρ' (.slice (some ⟨m.next, 0, none⟩) (l + k) (symC (symI + m.caps))) v := fun {kill} hkl hlt2 => by
        obtain ⟨v', w', q1, q2, q3⟩ := s.grow ty (ρ.a ⟨tk, off, none⟩) l (ρ.c c) olds o1 o2 hlt2 hb
        obtain ⟨ρ', ev, rv⟩ := hm.grown (kill := kill) hkl q2 q3 (by omega) (o3.app r)
        exact ⟨ρ', v', w', q1, ev, rv⟩
      split at h
      · rename_i hroom
        cases h
        unfold roomB at hroom
        simp only [Bool.and_eq_true] at hroom
        obtain ⟨hr1, hr2⟩ := hroom
        have hr1 := Nat.le_of_ble_eq_true hr1
        -- the block bears what is known
        have hfull : ρ.off tk + (off + (l + k) * sz) ≤ full.size := by
          obtain ⟨v, hv, _⟩ := hc (off + (l + k) * sz - 1) _ (List.getElem?_eq_getElem (by
            have : 0 < (l + k) * sz := Nat.mul_pos (by omega) hsz
            omega))
          have := (Array.getElem?_eq_some_iff.1 hv).1
          have : 0 < (l + k) * sz := Nat.mul_pos (by omega) hsz
          omega
        have hcap : l + k ≤ ρ.c c := by
          cases hlit : Nat.blt c symB with
          | true => rw [hlit, cond_true] at hr2; rw [ρ.c_lit hlit]; exact Nat.le_of_ble_eq_true hr2
          | false =>
            rw [hlit, cond_false] at hr2
            split at hr2
            · rename_i s' sz'
              simp only [Bool.and_eq_true] at hr2
              obtain ⟨e1, e2, e3⟩ := hr2
              have e1 := Nat.eq_of_beq_eq_true e1
              have e2 := Nat.eq_of_beq_eq_true e2
              have e3 := Nat.eq_of_beq_eq_true e3
              subst e1; subst e2
              rw [sym_c (by rw [hlit]; simp)]
              have hh := hgr.2
              have h9 : (c % 4294967296 + (l + k)) * sz' ≤ ρ.cap (c / 4294967296) * sz' := by rw [Nat.add_mul]; omega
              have := Nat.le_of_mul_le_mul_right h9 hsz
              omega
            · cases hr2
        obtain ⟨hb', bu⟩ := hB.sets news w full (ρ.off tk + off + l * sz)
        have hrun := s.room ty (ρ.blk tk) (ρ.off tk + off) l (ρ.c c) hcap (fun j hj => by
            rw [hB.cell, Array.getElem?_eq_getElem (by rw [s.len] at hj; omega)]; rfl) (fun j hj => hB.frozen (by rw [s.len] at hj; omega))
        refine ⟨ρ, _, _, hrun, hm.put hg rfl bu fun _ => ⟨_, hb', fun i q hq => ?_, ?_⟩, ?_⟩
        · rw [ovw_get (by omega)] at hq
          rw [putL_get _ _ _ (by rw [s.len]; omega)]
          split at hq
          · rename_i hin
            obtain ⟨v, hv, rv⟩ := r.get hq
            refine ⟨v, ?_, rv⟩
            rw [if_pos (by rw [← r.len]; omega), show ρ.off tk + i - (ρ.off tk + off + l * sz) = i - (off + l * sz) by omega]
            exact hv
          · rename_i hin
            obtain ⟨v, hv, rv⟩ := hc i q hq
            refine ⟨v, ?_, rv⟩
            rw [if_neg (by rw [← r.len]; omega)]; exact hv
        · cases g with
          | none => trivial
          | some x => exact ⟨hgr.1, by rw [putL_size]; exact hgr.2⟩
        · exact VR.slice (ρ := ρ) (some ⟨tk, off, none⟩) (l + k) c hcap hod hcd
      · split at h
        · rename_i hlit
          split at h
          · rename_i hc2
            cases h
            have hc2 : c < l + k := Nat.le_of_ble_eq_true hc2
            exact hgrow (kill := none) (fun t0 e => by cases e) (by rw [ρ.c_lit hlit]; exact hc2)
          · cases h
        · rename_i hlit
          split at h
          · rename_i s' sz' _
            split at h
            · rename_i hx2
              simp only [Bool.and_eq_true] at hx2
              obtain ⟨e1, e2, e3⟩ := hx2
              have e1 := Nat.eq_of_beq_eq_true e1
              have e2 := Nat.eq_of_beq_eq_true e2
              have e3 := Nat.eq_of_beq_eq_true e3
              subst e1; subst e2
              cases h
              rcases Nat.lt_or_ge (ρ.c c) (l + k) with hlt2 | hge
              · exact hgrow (kill := some tk) (fun t0 e => by cases e; exact ⟨_, hg, rfl⟩) hlt2
              · -- room in the same block
                have hcc := sym_c (ρ := ρ) (by rw [hlit]; simp : ¬ Nat.blt c symB = true)
                have hh := hgr.2
                have htk : c % 4294967296 + (l + k) ≤ ρ.cap (c / 4294967296) := by omega
                have h9 := Nat.mul_le_mul_right sz' htk
                rw [Nat.add_mul] at h9
                obtain ⟨hb', bu⟩ := hB.sets news w full (ρ.off tk + off + l * sz')
                have hrun := s.room ty (ρ.blk tk) (ρ.off tk + off) l (ρ.c c) hge (fun j hj => by
                    rw [hB.cell, Array.getElem?_eq_getElem (by rw [s.len] at hj; omega)]; rfl) (fun j hj => hB.frozen (by rw [s.len] at hj; omega))
                refine ⟨ρ.more m.next (ρ.blk tk) (ρ.off tk + off) (symI + m.caps) (ρ.c c), _, _, hrun, hm.fresh (kill := some tk) (fun t0 e => by cases e; exact ⟨_, hg, rfl⟩) (bu.below hm.x hbk) (by rw [bu.size]; exact Nat.le_refl _) (fun kk _ hkk => bu.block kk (hkk tk rfl)) (by rw [bu.size]; exact hlt) (.inr ⟨tk, rfl, rfl⟩) rfl fun le => ⟨putL full (ρ.off tk + off + l * sz') news, by simpa [Rn.more] using hb', fun i q hq => ?_, .inr rfl, ?_⟩, ?_⟩
                · simp only [Rn.more, if_true]
                  rw [putL_get _ _ _ (by rw [s.len]; omega)]
                  have hol : ((cs.drop off).take (l * sz')).length = l * sz' := by rw [List.length_take, List.length_drop]; omega
                  rcases Nat.lt_or_ge i (l * sz') with hi | hi
                  · rw [List.getElem?_append_left (by omega), List.getElem?_take_of_lt hi, List.getElem?_drop] at hq
                    obtain ⟨v, hv, rv⟩ := hc _ _ hq
                    exact ⟨v, by rw [if_neg (by omega), Nat.add_assoc]; exact hv, rv.mono le⟩
                  · rw [List.getElem?_append_right (by omega), hol] at hq
                    obtain ⟨v, hv, rv⟩ := r.get hq
                    have hil := (List.getElem?_eq_some_iff.1 hv).1
                    exact ⟨v, by rw [if_pos (by omega), show ρ.off tk + off + i - (ρ.off tk + off + l * sz') = i - l * sz' by omega]; exact hv, rv.mono le⟩
                · simp only [Rn.more, if_true, putL_size]
                  rw [hh, hcc, Nat.sub_mul]; omega
                · have e1 : (ρ.more m.next (ρ.blk tk) (ρ.off tk + off) (symI + m.caps) (ρ.c c)).c (symC (symI + m.caps)) = ρ.c c := by rw [symC_c (by omega)]; simp [Rn.more]
                  have := VR.slice (ρ := ρ.more m.next (ρ.blk tk) (ρ.off tk + off) (symI + m.caps) (ρ.c c)) (some ⟨m.next, 0, none⟩) (l + k) (symC (symI + m.caps)) (by rw [e1]; exact hge) (fun p hp => by cases hp; exact .inr rfl) (symC_d (.inr rfl))
                  rw [e1] at this
                  simpa [Rn.more_a] using this
            · cases h
          · cases h
    · cases h
  · cases h
end
end Go.V

namespace Go.V
open Go.RowKit (Below)
open Go.Lib
section
variable {ρ ρ' : Rn} {m m' : AMem} {w w' w0 : World} {P : Program}
def availE (m : AMem) : Value → Nat
  | .slice (some ⟨tk, off, none⟩) _ c => match m.get tk with
    | some (.cells cs _ (some (s, sz))) => (match (Nat.beq (c / 4294967296) s && Nat.beq off (c % 4294967296 * sz)) && (Nat.blt 0 sz && !Nat.blt c symB) with | true => cs.length / sz - c % 4294967296 | false => 0)
    | _ => 0
  | _ => 0
theorem availE_ok (hm : Mem w0 ρ m w) {x : Value} : ∀ o l c, x = .slice o l c → availE m x ≤ ρ.c c := by
  rintro o l c rfl
  unfold availE
  split
  · rename_i tk off _ c' he
    cases he
    split
    · rename_i cs ty s sz hg
      split
      · rename_i hc
        simp only [Bool.and_eq_true, Bool.not_eq_true'] at hc
        obtain ⟨⟨e1, e2⟩, e3, e4⟩ := hc
        have e1 := Nat.eq_of_beq_eq_true e1
        have e2 := Nat.eq_of_beq_eq_true e2
        have e3 : 0 < sz := Nat.le_of_ble_eq_true e3
        subst e1
        obtain ⟨_, _, full, hB, hcs, hgr⟩ := hm.obj tk _ hg rfl
        rw [sym_c (by rw [e4]; simp)]
        have hle : cs.length ≤ ρ.cap (c / 4294967296) * sz := by
          rcases Nat.eq_zero_or_pos cs.length with h0 | h0
          · rw [h0]; exact Nat.zero_le _
          · obtain ⟨v, hv, _⟩ := hcs (cs.length - 1) _ (List.getElem?_eq_getElem (by omega))
            have := (Array.getElem?_eq_some_iff.1 hv).1
            have := hgr.2
            omega
        have h2 : cs.length / sz ≤ ρ.cap (c / 4294967296) := Nat.div_le_of_le_mul (by rw [Nat.mul_comm]; exact hle)
        omega
      · exact Nat.zero_le _
    · exact Nat.zero_le _
  · exact Nat.zero_le _
def appE (P : Program) (t u : Nat) (d x : Value) (m : AMem) : Option (Value × AMem) :=
  match P.underlying t with
  | some (.slice e) => match P.info? e with
    | some inf => match slOk P t e inf.size inf.bytes, d with
      | true, .slice o l c => match x with
        | .slice o2 k _ => (match Nat.beq t u with
          | true => (match k with
            | 0 => some (.slice o l c, m)
            | k + 1 => (match o2 with
              | some p => (match rowE m p 0 ((k + 1) * inf.size) with
                | some us => (match oneCells us with | true => appN e inf.size inf.bytes o l c (k + 1) us m | false => none)
                | none => none)
              | none => none))
          | false => none)
        | .string s => (match P.underlying u with
          | some .string => (match Nat.beq inf.size 1 with
            | true => (match s with
              | ⟨⟨[]⟩⟩ => some (.slice o l c, m)
              | s => appN e 1 inf.bytes o l c s.size (strCells s) m)
            | false => none)
          | _ => none)
        | _ => none
      | _, _ => none
    | none => none
  | _ => none
theorem appN_ne {e sz bytes : Nat} {o : Option Addr} {l c k : Nat} {us : List Value} {y : Value} (h : appN e sz bytes o l c k us m = some (y, m')) : o ≠ some emp := by
  rintro rfl
  unfold appN emp at h
  split at h
  · cases h
  · cases h
theorem sliceR {o : Option Addr} {l c : Nat} {d : Value} (r : VR ρ (.slice o l c) d) : ∃ a c', d = .slice a l c' ∧ l ≤ c' := by
  cases r with
  | slice _ _ _ h => exact ⟨_, _, rfl, h⟩
  | empty a c => exact ⟨_, _, rfl, Nat.zero_le _⟩
theorem plainsL {us : List Value} (h : us.all plainV = true) : LR ρ us us := plainL h
theorem strPlain (s : ByteArray) : (strCells s).all plainV = true := by
  unfold strCells
  rw [List.all_map, List.all_eq_true]
  intro x _; rfl
theorem appE_ok {t u ty : Nat} {d x d' x' y : Value} (h : appE P t u d x m = some (y, m')) (rd : VR ρ d d') (rx : VR ρ x x') (hm : Mem w0 ρ m w) : RunT P w0 ρ m w (Builtin.append_ #[t, u] ty #[d', x']) y m' := by
  unfold appE at h
  split at h
  · rename_i e hu
    split at h
    · rename_i inf hinf
      split at h
      · rename_i o l c hsl
        have H := slOk.ok hsl
        split at h
        · rename_i o2 k c2
          split at h
          · rename_i htu
            have htu := Nat.eq_of_beq_eq_true htu
            subst htu
            split at h
            · cases h
              obtain ⟨a, c', rfl, hlc⟩ := sliceR rd
              obtain ⟨a2, c2', rfl, _⟩ := sliceR rx
              exact ⟨ρ, _, w, run_append_zero H hlc (.inl ⟨rfl, _, _, rfl⟩), Ev.refl hm, rd⟩
            · rename_i k
              split at h
              · rename_i p
                split at h
                · rename_i us hus
                  split at h
                  · rename_i h1
                    obtain ⟨vs, r1, r2, r3⟩ := rowE_ok hm.c hus
                    cases rx with
                    | slice _ _ _ hl hod hcd =>
                    have S : Src P w t t e inf.size inf.bytes (.slice ((some p).map ρ.a) (k + 1) (ρ.c c2)) (k + 1) vs := Src.ofSlice H r2 (fun j v hj => by
                      have hj2 : j < (k + 1) * inf.size := by rw [← r2]; exact (List.getElem?_eq_some_iff.1 hj).1
                      have := r3 j hj2
                      rw [Nat.zero_add] at this
                      rw [this]; exact hj) (onesR r1 h1)
                    exact appN_ok h S r1 hm rd (appN_ne h)
                  · cases h
                · cases h
              · cases h
          · cases h
        · rename_i s
          split at h
          · rename_i hus
            split at h
            · rename_i h1
              have h1 := Nat.eq_of_beq_eq_true h1
              rw [h1] at H
              cases rx
              split at h
              · cases h
                obtain ⟨a, c', rfl, hlc⟩ := sliceR rd
                exact ⟨ρ, _, w, run_append_zero H hlc (.inr ⟨hus, rfl⟩), Ev.refl hm, rd⟩
              · exact appN_ok h (Src.ofStr H hus s) (plainsL (strPlain s)) hm rd (appN_ne h)
            · cases h
          · cases h
        · cases h
      · cases h
    · cases h
  · cases h
/-! ### Strings and bytes -/
def intsOf : List Value → Option (List Int)
  | [] => some []
  | .int .u8 n :: us => match intsOf us with | some ns => some (n :: ns) | none => none
  | _ => none
theorem intsOf_ok : ∀ {us : List Value} {ns : List Int}, intsOf us = some ns → us = ns.map (.int .u8)
  | [], ns, h => by cases h; rfl
  | u :: us, ns, h => by
    unfold intsOf at h
    split at h
    · rename_i he; cases he
    · rename_i n us' he
      cases he
      split at h
      · rename_i ns' hn; cases h; rw [intsOf_ok hn]; rfl
      · cases h
    · cases h
theorem LR.ints {ns : List Int} {vs : List Value} (h : LR ρ (ns.map (Value.int .u8)) vs) : vs = ns.map (.int .u8) := by
  apply List.ext_getElem?
  intro i
  cases hi : (ns.map (Value.int .u8))[i]? with
  | none =>
    have := h.len
    have h2 := List.getElem?_eq_none_iff.1 hi
    exact List.getElem?_eq_none (by omega)
  | some u =>
    obtain ⟨v, hv, r⟩ := h.get hi
    rw [List.getElem?_map] at hi
    cases hn : ns[i]? with
    | none => rw [hn] at hi; cases hi
    | some n =>
      rw [hn] at hi
      simp only [Option.map_some, Option.some.injEq] at hi
      subst hi
      cases r; exact hv
def cvE (P : Program) (s d : Nat) (x : Value) (m : AMem) : Option (Value × AMem) :=
  match P.underlying s, P.underlying d, x with
  | some .string, some (.slice e), .string str => match P.underlying e with
    | some (.int .u8) => some (.slice (some ⟨m.next, 0, none⟩) str.size (symC (symI + m.caps)), m.fresh none (.cells (strCells str) e (some (symI + m.caps, 1))))
    | _ => none
  | some (.slice e), some .string, .slice o l _ => match P.underlying e with
    | some (.int .u8) => (match o with
      | none => some (.string ByteArray.empty, m)
      | some p => (match l with
        | 0 => some (.string ByteArray.empty, m)
        | l + 1 => (match rowE m p 0 (l + 1) with
          | some us => (match intsOf us with | some ns => some (.string (strOfNums ns), m) | none => none)
          | none => none)))
    | _ => none
  | _, _, _ => none
theorem cvE_ok {s d : Nat} {x x' y : Value} (h : cvE P s d x m = some (y, m')) (rx : VR ρ x x') (hm : Mem w0 ρ m w) : RunT P w0 ρ m w (convert s d x') y m' := by
  unfold cvE at h
  split at h
  · rename_i e str hs hd
    split at h
    · rename_i he
      cases h
      cases rx
      have hrun := Go.Lib.run_convert_string_bytes (P := P) w s d e str hs hd he
      have hnew := bytesWorld_at_new w e str
      have hsz : (bytesCells w e str).size = grownCap w str.size 0 e := by
        have := grownCap_ge w str.size 0 e
        simp [bytesCells]
        have e1 : str.data.size = str.size := rfl
        omega
      have hx : Ext w (bytesWorld w e str) := ⟨rfl, rfl, rfl, by rw [bytesWorld_size]; omega, fun i hi => bytesWorld_at_old w e str i hi⟩
      refine ⟨ρ.more m.next w.heap.size 0 (symI + m.caps) (grownCap w str.size 0 e), _, _, hrun, hm.fresh (kill := none) (fun t0 e => by cases e) (Below.trans hm.x (hx.mono hm.x.size)) hx.size (fun k hk2 _ => hx.block k hk2) (Array.getElem?_eq_some_iff.1 hnew).1 (.inl (Nat.le_refl _)) rfl fun le => ⟨bytesCells w e str, ⟨_, by simpa [Rn.more] using hnew, .inr (Nat.le_refl _)⟩, fun i u hu => ?_, .inr rfl, by simp [Rn.more, hsz]⟩, ?_⟩
      · refine ⟨u, ?_, .plain (List.all_eq_true.1 (strPlain str) u (List.mem_of_getElem? hu))⟩
        simp only [Rn.more, if_true, Nat.zero_add]
        have hi : i < (strCells str).length := (List.getElem?_eq_some_iff.1 hu).1
        rw [strCells_length] at hi
        have e2 : (bytesCells w e str)[i]? = (str.data.map fun b => Value.int .u8 b.toNat)[i]? := by
          unfold bytesCells
          rw [Array.getElem?_append_left (by rw [Array.size_map]; exact hi)]
        rw [e2, ← hu, strCells, ← Array.getElem?_toList, Array.toList_map]
      · have e1 : (ρ.more m.next w.heap.size 0 (symI + m.caps) (grownCap w str.size 0 e)).c (symC (symI + m.caps)) = grownCap w str.size 0 e := by rw [symC_c (by omega)]; simp [Rn.more]
        have := VR.slice (ρ := ρ.more m.next w.heap.size 0 (symI + m.caps) (grownCap w str.size 0 e)) (some ⟨m.next, 0, none⟩) str.size (symC (symI + m.caps)) (by rw [e1]; exact grownCap_ge w str.size 0 e) (fun p hp => by cases hp; exact .inr rfl) (symC_d (.inr rfl))
        rw [e1] at this
        simpa [Rn.more_a] using this
    · cases h
  · rename_i e o l c hs hd
    split at h
    · rename_i he
      split at h
      · cases h
        cases rx
        exact ⟨ρ, _, w, run_convert_bytes_nil w s e hs he _ _ d hd, Ev.refl hm, .string _⟩
      · rename_i p
        split at h
        · cases h
          obtain ⟨a, c', rfl, _⟩ := sliceR rx
          refine ⟨ρ, .string ByteArray.empty, w, ?_, Ev.refl hm, .string _⟩
          rw [run_convert_bytes_string w s d e a 0 c' hs he hd]
          cases a with
          | none => simp [Conv.bytesToString]
          | some a =>
            have := run_bytesToString (P := P) w a 0 c' [] (by simp [loadCells, loadCellsFrom])
            simpa using this
        · rename_i l
          split at h
          · rename_i us hus
            split at h
            · rename_i ns hns
              cases h
              cases rx with
              | slice _ _ _ hl hod hcd =>
              obtain ⟨vs, r1, r2, r3⟩ := rowE_ok hm.c hus
              have e0 := intsOf_ok hns
              subst e0
              have e1 := r1.ints
              subst e1
              have hld := run_loadCells_list (P := P) (w := w) (ρ.a p) (ns.map (Value.int .u8)) (fun j v hj => by
                have hj2 : j < l + 1 := by rw [← r2]; exact (List.getElem?_eq_some_iff.1 hj).1
                have := r3 j hj2
                rw [Nat.zero_add] at this
                rw [this]; exact hj)
              rw [r2] at hld
              refine ⟨ρ, _, w, ?_, Ev.refl hm, .string _⟩
              show (convert s d (.slice (some (ρ.a p)) (l + 1) (ρ.c c))).run P w = _
              rw [run_convert_bytes_string w s d e _ (l + 1) _ hs he hd, run_bytesToString w _ (l + 1) _ ns hld, foldl_push_bytes]
              simp [strOfNums]
            · cases h
          · cases h
    · cases h
  · cases h
/-! ### clear -/
def clearE (P : Program) (t : Nat) (x : Value) (m : AMem) : Option (Value × AMem) :=
  match P.underlying t, x with
  | some (.slice e), .slice o n _ => match n with
    | 0 => some (.tuple #[], m)
    | n + 1 => match o, P.info? e with
      | some ⟨tk, off, none⟩, some inf => match inf.zero, m.get tk with
        | some z, some (.cells cs ty g) => (match (z.cells.toList.all plainV && oneCells z.cells.toList) && (!z.cells.toList.isEmpty && Nat.ble (off + (litCells z.cells.toList (n + 1)).length) cs.length) with
          | true => some (.tuple #[], m.put tk (.cells (ovw cs off (litCells z.cells.toList (n + 1))) ty g))
          | false => none)
        | _, _ => none
      | _, _ => none
  | _, _ => none
theorem lit_all {z : List Value} {p : Value → Bool} (h : z.all p = true) : ∀ n, (litCells z n).all p = true
  | 0 => rfl
  | n + 1 => by rw [litCells, List.all_append, h, lit_all h n]; rfl
theorem oneCells_iff {vs : List Value} : oneCells vs = vs.all (·.oneCell') := by
  induction vs with
  | nil => rfl
  | cons v vs ih => simp [oneCells, ih]
theorem clearE_ok {t ty : Nat} {x x' y : Value} (h : clearE P t x m = some (y, m')) (rx : VR ρ x x') (hm : Mem w0 ρ m w) : RunT P w0 ρ m w (Builtin.clear_ #[t] ty #[x']) y m' := by
  unfold clearE at h
  split at h
  · rename_i e o n c hu
    split at h
    · cases h
      obtain ⟨a, c', rfl, _⟩ := sliceR rx
      exact ⟨ρ, .tuple #[], w, by cases a <;> simp [Builtin.clear_, run_underlying hu], Ev.refl hm, .tuple _ _ rfl (fun i u v h => by simp at h)⟩
    · rename_i n
      split at h
      · rename_i tk off inf hi
        split at h
        · rename_i z cs ty2 g hz hg
          split at h
          · rename_i hc
            cases h
            simp only [Bool.and_eq_true, Bool.not_eq_true'] at hc
            obtain ⟨⟨h1, h2⟩, h3, h4⟩ := hc
            have h4 := Nat.le_of_ble_eq_true h4
            cases rx with
            | slice _ _ _ hl hod hcd =>
            obtain ⟨hbk, _, full, hB, hcs, hgr⟩ := hm.obj tk _ hg rfl
            have hne : z.cells.toList ≠ [] := fun e => by rw [e] at h3; cases h3
            have hzc : (Builtin.zeroCells z.cells (n + 1)).toList = litCells z.cells.toList (n + 1) := by
              have := litCells_eq z.cells.toList hne (n + 1)
              have e2 : Builtin.zeroCells z.cells (n + 1) = (litCells z.cells.toList (n + 1)).toArray := by
                rw [this]; simp [Builtin.zeroCells]
              rw [e2]
            have hpl := lit_all h1 (n + 1)
            have hon : oneCells (litCells z.cells.toList (n + 1)) = true := by rw [oneCells_iff] at h2 ⊢; exact lit_all h2 (n + 1)
            have hlen : 0 < (litCells z.cells.toList (n + 1)).length := by
              rw [litCells, List.length_append]
              have : 0 < z.cells.toList.length := List.length_pos_iff.2 hne
              omega
            generalize litCells z.cells.toList (n + 1) = us at *
            have hfull : ρ.off tk + (off + us.length) ≤ full.size := by
              obtain ⟨v, hv, _⟩ := hcs (off + us.length - 1) _ (List.getElem?_eq_getElem (by omega))
              have := (Array.getElem?_eq_some_iff.1 hv).1
              omega
            obtain ⟨hb', bu⟩ := hB.sets us w full (ρ.off tk + off)
            have hst := run_storeCells_cells (P := P) (ρ.blk tk) (ρ.off tk + off) us 0 w (fun j hj => by
              rw [Nat.add_zero, hB.cell, Array.getElem?_eq_getElem (by omega)]; rfl) (fun j hj => hB.frozen (by omega)) (oneCells_all hon)
            simp only [Nat.add_zero] at hst
            have hzv : (zeroValue e).run P w = .ok z w := by simp [zeroValue, typeInfo, hi, hz]
            refine ⟨ρ, .tuple #[], _, ?_, hm.put hg rfl bu fun _ => ⟨_, hb', fun i q hq => ?_, ?_⟩, .tuple _ _ rfl (fun i u v h => by simp at h)⟩
            · show (Builtin.clear_ #[t] ty #[.slice (some ⟨ρ.blk tk, ρ.off tk + off, none⟩) (n + 1) (ρ.c c)]).run P w = _
              simp [Builtin.clear_, run_underlying hu, hzv, hzc, hst]
            · rw [ovw_get (by omega)] at hq
              rw [putL_get _ _ _ (by omega)]
              split at hq
              · rename_i hin
                rw [if_pos (by omega), show ρ.off tk + i - (ρ.off tk + off) = i - off by omega]
                exact ⟨q, hq, .plain (List.all_eq_true.1 hpl q (List.mem_of_getElem? hq))⟩
              · rename_i hin
                rw [if_neg (by omega)]
                exact hcs i q hq
            · cases g with
              | none => trivial
              | some x => exact ⟨hgr.1, by rw [putL_size]; exact hgr.2⟩
          · cases h
        · cases h
      · cases h
  · cases h
/-! ### slices with three indices -/
def boundE : Option Value → Option Nat
  | some (.int _ n) => if 0 ≤ n then some n.toNat else none
  | _ => none
def cut3E (P : Program) (t : Nat) (m : AMem) (x : Value) (lo hi mx : Option Value) : Option Value :=
  match P.underlying t, x with
  | some (.slice e), .slice o len c => match P.info? e, boundE hi, boundE mx with
    | some inf, some h, some mm => (match (match lo with | none => some 0 | l => boundE l), o with
      | _, some ⟨_, _, some _⟩ => none
      | some l, o => (match Nat.ble l h && (Nat.ble h mm && (Nat.ble mm len || Nat.ble mm (availE m x) || (Nat.blt c symB && Nat.ble mm c))) && Nat.blt mm symB with
        | true => some (.slice (match Nat.beq mm l with | true => o | false => o.map (·.add (l * inf.size))) (h - l) (mm - l))
        | false => none)
      | none, _ => none)
    | _, _, _ => none
  | _, _ => none
theorem boundE_ok {o o' : Option Value} {n y : Nat} {code : BoundsCode} (h : boundE o = some n) (r : OR ρ o o') (hy : n ≤ y) : ∃ v, o' = some v ∧ (Instr.sliceBound v y code).run P w = .ok n w := by
  unfold boundE at h
  split at h
  · rename_i k n'
    cases o' with
    | none => exact r.elim
    | some v =>
      have r : VR ρ (.int k n') v := r
      cases r
      split at h
      · rename_i h0
        cases h
        exact ⟨_, rfl, by rw [run_sliceBound (P := P) (w := w) k n' y code h0 (by omega)]⟩
      · cases h
  · cases h
theorem cut3E_ok {t : Nat} {x x' y : Value} {lo hi mx lo' hi' mx' : Option Value} (h : cut3E P t m x lo hi mx = some y) (rx : VR ρ x x') (r1 : OR ρ lo lo') (r2 : OR ρ hi hi') (r3 : OR ρ mx mx') (hm : Mem w0 ρ m w) :
    RunT P w0 ρ m w (Instr.sliceAt t x' lo' hi' mx') y m := by
  unfold cut3E at h
  split at h
  · rename_i e o len c hu
    split at h
    · rename_i inf hh mm hinf hhi hmx
      split at h
      · cases h
      · rename_i o _ oo l hlo hne
        split at h
        · rename_i hc
          simp only [Bool.and_eq_true, Bool.or_eq_true] at hc
          obtain ⟨⟨c1, c2, c3⟩, c4⟩ := hc
          have c1 := Nat.le_of_ble_eq_true c1
          have c2 := Nat.le_of_ble_eq_true c2
          cases h
          have hcap : mm ≤ ρ.c c ∨ x' = x' := .inr rfl
          have hav := availE_ok hm (x := .slice o len c) o len c rfl
          cases rx with
          | empty a c' => exact absurd rfl (hne _ _ _)
          | slice _ _ _ hlc hod hcd =>
          have c3 : mm ≤ ρ.c c := by
            rcases c3 with (c3 | c3) | ⟨c3, c5⟩
            · exact Nat.le_trans (Nat.le_of_ble_eq_true c3) hlc
            · exact Nat.le_trans (Nat.le_of_ble_eq_true c3) hav
            · rw [ρ.c_lit c3]; exact Nat.le_of_ble_eq_true c5
          obtain ⟨vm, rfl, qm⟩ := boundE_ok (P := P) (w := w) (y := ρ.c c) (code := .slice3Acap) hmx r3 c3
          obtain ⟨vh, rfl, qh⟩ := boundE_ok (P := P) (w := w) (y := mm) (code := .slice3B) hhi r2 c2
          have hrun : (Instr.sliceAt t (.slice (o.map ρ.a) len (ρ.c c)) lo' (some vh) (some vm)).run P w = .ok (.slice (if mm = l then o.map ρ.a else (o.map ρ.a).map (·.add (l * inf.size))) (hh - l) (mm - l)) w := by
            cases lo with
            | none =>
              cases lo' with
              | some _ => exact r1.elim
              | none =>
                cases hlo
                simp [Instr.sliceAt, Instr.slice, run_underlying hu, Instr.sliceBounds, qm, qh, sizeOf, typeInfo, hinf]
            | some lv =>
              obtain ⟨vl, rfl, ql⟩ := boundE_ok (P := P) (w := w) (y := hh) (code := .slice3C) hlo r1 c1
              simp [Instr.sliceAt, Instr.slice, run_underlying hu, Instr.sliceBounds, qm, qh, ql, sizeOf, typeInfo, hinf]
          refine ⟨ρ, _, w, hrun, Ev.refl hm, ?_⟩
          have c4' : Nat.blt (mm - l) symB = true := Nat.ble_eq_true_of_le (by have := Nat.le_of_ble_eq_true c4; omega)
          have ec := ρ.c_lit c4'
          have v := VR.slice (ρ := ρ) (match Nat.beq mm l with | true => o | false => o.map (·.add (l * inf.size))) (hh - l) (mm - l) (by rw [ec]; omega) (by split; exact hod; exact Rn.oD_map hod _) (.inl c4')
          rw [ec] at v
          by_cases e : mm = l
          · subst e; simp only [Nat.beq_refl, if_true] at v ⊢; exact v
          · simp only [beq_ne e, if_neg e] at v ⊢; rw [map_add]; exact v
        · cases h
      · cases h
    · cases h
  · cases h
end
end Go.V

namespace Go.V
open Go.RowKit (Below)
section
variable {ρ ρ' : Rn} {m m' : AMem} {w w' w0 : World} {P : Program}
def rangeE (P : Program) (t : Nat) (x : Value) (m : AMem) : Option (Value × AMem) :=
  match P.underlying t, x with
  | some (.map _ _), .map none => some (.pointer (some ⟨m.next, 0, none⟩), m.fresh none (.iter none 0 [] 0))
  | some (.map _ _), .map (some k) => match m.get k with
    | some (.amap _ _ c) => some (.pointer (some ⟨m.next, 0, none⟩), m.fresh none (.iter (some k) c [] c))
    | _ => none
  | _, _ => none
theorem rangeE_ok {t : Nat} {x x' y : Value} (h : rangeE P t x m = some (y, m')) (rx : VR ρ x x') (hm : Mem w0 ρ m w) : RunT P w0 ρ m w (Instr.range t x') y m' := by
  have fin : ∀ (mo : Option Nat) (c : Nat), (∀ k, mo = some k → ρ.dom k) → (Instr.range t x').run P w = .ok (.pointer (some ⟨w.heap.size, 0, none⟩)) (w.alloc (.mapIter (mo.map ρ.blk) c #[] c)) → RunT P w0 ρ m w (Instr.range t x') (.pointer (some ⟨m.next, 0, none⟩)) (m.fresh none (.iter mo c [] c)) := fun mo c hd hr => by
    have hx : Ext w (w.alloc (.mapIter (mo.map ρ.blk) c #[] c)) := (Below.refl _ _).alloc (Nat.le_refl _) _
    have hg : (w.alloc (.mapIter (mo.map ρ.blk) c #[] c)).heap[w.heap.size]? = some (.mapIter (mo.map ρ.blk) c #[] c) := heap_alloc_new w _
    refine ⟨_, _, _, hr, hm.fresh (kill := none) (o' := .iter mo c [] c) (b := w.heap.size) (off := 0) (cap := 0) (fun t0 e => by cases e) (Below.trans hm.x (hx.mono hm.x.size)) hx.size (fun kk hk _ => hx.block kk hk) (Array.getElem?_eq_some_iff.1 hg).1 (.inl (Nat.le_refl _)) rfl (fun le => ?_), ?_⟩
    · have e3 : mo.map (ρ.more m.next w.heap.size 0 (symI + m.caps) 0).blk = mo.map ρ.blk := by
        cases mo with
        | none => rfl
        | some j => simp only [Option.map_some, (le.tok j (hd j rfl)).2.1]
      refine ⟨?_, by simp [Rn.more], fun k hk => (le.tok k (hd k hk)).1⟩
      rw [e3]; simpa [Rn.more] using hg
    · have := VR.pointer (ρ := ρ.more m.next w.heap.size 0 (symI + m.caps) 0) (some ⟨m.next, 0, none⟩) fun p hp => by cases hp; exact .inr rfl
      simpa [Rn.more_a] using this
  unfold rangeE at h
  split at h
  · rename_i kt et hu
    cases h
    cases rx
    exact fin none 0 (fun k h => by cases h) (by simp [Instr.range, run_underlying hu])
  · rename_i kt et k hu
    split at h
    · rename_i es bs c hg
      cases h
      cases rx with
      | map _ hd =>
      obtain ⟨_, _, ents, h1, _⟩ := hm.obj k _ hg rfl
      have hgo : (getObj (ρ.blk k)).run P w = .ok (.map ents c) w := by simp [getObj, Sem.run, h1]
      exact fin (some k) c (fun j h => by cases h; exact hd k rfl) (by simp [Instr.range, run_underlying hu, hgo])
    · cases h
  · cases h
def zipM : List (Value × Value) → List Nat → List (Value × Value × Nat)
  | (k, v) :: es, b :: bs => (k, v, b) :: zipM es bs
  | _, _ => []
def hasN : List Nat → Nat → Bool
  | [], _ => false
  | a :: l, b => Nat.beq a b || hasN l b
def candE (es : List (Value × Value)) (bs : List Nat) (since : Nat) (seen : List Nat) : Option (Option (Value × Value × Nat)) :=
  match (zipM es bs).filter fun e => !hasN seen e.2.2 with
  | [] => some none
  | [e] => match Nat.blt e.2.2 since with | true => some (some e) | false => none
  | _ => none
def nextE (it : Value) (s : Bool) (m : AMem) : Option (Value × AMem) :=
  match it, s with
  | .pointer (some ⟨r, 0, none⟩), false => match m.get r with
    | some (.iter none _ _ _) => some (.tuple #[.bool false], m)
    | some (.iter (some k) since seen last) => match m.get k with
      | some (.amap es bs c) => match (seen.isEmpty || es.isEmpty) || !(bs.all fun b => Nat.ble last b) with
        | true => match candE es bs since seen with
          | some none => some (.tuple #[.bool false], m)
          | some (some (kk, v, b)) => (match plainV kk with | true => some (.tuple #[.bool true, kk, v], m.put r (.iter (some k) since (seen ++ [b]) c)) | false => none)
          | none => none
        | false => none
      | _ => none
    | _ => none
  | _, _ => none
theorem hasN_eq {l : List Nat} {b : Nat} : hasN l b = l.contains b := by
  induction l with
  | nil => rfl
  | cons a l ih =>
    unfold hasN
    rw [ih, List.contains_cons]
    congr 1
    rw [Bool.eq_iff_iff]
    constructor
    · intro h; have := Nat.eq_of_beq_eq_true h; subst this; exact beq_self_eq_true _
    · intro h; have := eq_of_beq h; subst this; exact Nat.beq_refl _
inductive ZR (ρ : Rn) : List (Value × Value × Nat) → List MapEntry → Prop
  | nil : ZR ρ [] []
  | cons {k u v : Value} {b : Nat} {xs : List (Value × Value × Nat)} {ys : List MapEntry} : VR ρ u v → ZR ρ xs ys → ZR ρ ((k, u, b) :: xs) (⟨k, v, b⟩ :: ys)
theorem zipM_ok : ∀ {es : List (Value × Value)} {bs : List Nat} {ents : List MapEntry}, ents.map (·.key) = es.map (·.1) → LR ρ (es.map (·.2)) (ents.map (·.val)) → ents.map (·.born) = bs → ZR ρ (zipM es bs) ents
  | [], bs, ents, h1, h2, h3 => by
    have : ents = [] := by cases ents <;> simp at h1; rfl
    subst this; unfold zipM; exact .nil
  | (k, u) :: es, bs, ents, h1, h2, h3 => by
    cases ents with
    | nil => simp at h1
    | cons d ds =>
      obtain ⟨dk, dv, db⟩ := d
      subst h3
      simp only [List.map_cons, List.cons.injEq] at h1
      obtain ⟨y, ys, e1, r1, r2⟩ := h2.inv_cons
      simp only [List.map_cons, List.cons.injEq] at e1
      obtain ⟨rfl, h1⟩ := h1
      obtain ⟨rfl, rfl⟩ := e1
      simp only [List.map_cons, zipM]
      exact .cons r1 (zipM_ok h1 r2 rfl)
theorem ZR.filter {xs : List (Value × Value × Nat)} {ys : List MapEntry} (h : ZR ρ xs ys) (p : Nat → Bool) : ZR ρ (xs.filter fun e => p e.2.2) (ys.filter fun e => p e.born) := by
  induction h with
  | nil => exact .nil
  | @cons k u v b xs ys r _ ih =>
    rw [List.filter_cons, List.filter_cons]
    cases hp : p b with
    | true => rw [if_pos rfl, if_pos rfl]; exact .cons r ih
    | false => rw [if_neg (by simp), if_neg (by simp)]; exact ih
theorem choose1 (w : World) : (choose (.mapNext 1)).run P w = .ok 0 w := by simp [choose, Sem.run, Question.forced]
theorem tupleR1 (ρ : Rn) (b : Bool) : VR ρ (.tuple #[.bool b]) (.tuple #[.bool b]) := VR.tupleL (.cons (.bool b) .nil)
theorem nextE_ok {ty : Nat} {x x' y : Value} {s : Bool} (h : nextE x s m = some (y, m')) (rx : VR ρ x x') (hm : Mem w0 ρ m w) : RunT P w0 ρ m w (Instr.next x' s ty) y m' := by
  unfold nextE at h
  split at h
  · rename_i r
    split at h
    · rename_i since seen last hg
      cases h
      obtain ⟨_, _, h1, h0, _⟩ := hm.obj r _ hg rfl
      have hgo : (getObj (ρ.blk r)).run P w = .ok (.mapIter none since seen.toArray last) w := by simp [getObj, Sem.run, h1]
      cases rx
      refine ⟨ρ, .tuple #[.bool false], w, ?_, Ev.refl hm, tupleR1 ρ false⟩
      show (Instr.next (.pointer (some ⟨ρ.blk r, ρ.off r + 0, none⟩)) false ty).run P w = _
      simp [Instr.next, h0, hgo]
    · rename_i k since seen last hg
      split at h
      · rename_i es bs c hgk
        split at h
        · rename_i hcond
          obtain ⟨hbr, _, h1, h0, hdk⟩ := hm.obj r _ hg rfl
          obtain ⟨_, _, ents, e1, e2, e3, e4⟩ := hm.obj k _ hgk rfl
          have hgo : (getObj (ρ.blk r)).run P w = .ok (.mapIter (some (ρ.blk k)) since seen.toArray last) w := by simp [getObj, Sem.run, h1]
          have hgm : (getObj (ρ.blk k)).run P w = .ok (.map ents c) w := by simp [getObj, Sem.run, e1]
          have hz := (zipM_ok e2 e3 e4).filter (fun b => !hasN seen b)
          have hno : (!seen.toArray.isEmpty && !ents.isEmpty && ents.all (·.born ≥ last)) = false := by
            simp only [Bool.or_eq_true, Bool.not_eq_true'] at hcond
            rcases hcond with (hc | hc) | hc
            · have : seen = [] := by simpa using hc
              simp [this]
            · have he : es = [] := by simpa using hc
              subst he
              have : ents = #[] := by
                have : ents.toList = [] := by cases hh : ents.toList with | nil => rfl | cons a l => rw [hh] at e2; simp at e2
                apply Array.ext'; simpa using this
              simp [this]
            · have : ents.all (·.born ≥ last) = false := by
                rw [← Bool.not_eq_true]
                intro ha
                rw [Array.all_eq_true_iff_forall_mem] at ha
                rw [← Bool.not_eq_true] at hc
                apply hc
                rw [List.all_eq_true]
                intro b hb
                rw [← e4] at hb
                obtain ⟨d, hd, rfl⟩ := List.mem_map.1 hb
                have := ha d (by simpa using hd)
                exact Nat.ble_eq_true_of_le (by simpa using this)
              simp [this]
          have hleft : (ents.filter fun e => !seen.toArray.contains e.born) = (ents.toList.filter fun e => !hasN seen e.born).toArray := by
            apply Array.ext'
            rw [Array.toList_filter]
            congr 1
            funext e
            rw [hasN_eq, List.contains_toArray]
          cases rx
          unfold candE at h
          split at h
          · rename_i hc
            split at hc
            · rename_i hf
              rw [hf] at hz
              have hl : (ents.toList.filter fun e => !hasN seen e.born) = [] := by cases hh : (ents.toList.filter fun e => !hasN seen e.born) with | nil => rfl | cons a l => rw [hh] at hz; cases hz
              cases h
              refine ⟨ρ, .tuple #[.bool false], w, ?_, Ev.refl hm, tupleR1 ρ false⟩
              show (Instr.next (.pointer (some ⟨ρ.blk r, ρ.off r + 0, none⟩)) false ty).run P w = _
              simp only [Instr.next, h0, Sem.run_bind, hgo, hgm, Result.andThen_ok, hno, hleft, hl]
              simp [Question.forced]
            · split at hc <;> cases hc
            · cases hc
          · rename_i kk v b hc
            split at h
            · rename_i hpl
              split at hc
              · cases hc
              · rename_i e hf
                split at hc
                · rename_i hlt
                  have hlt := Nat.le_of_ble_eq_true hlt
                  cases hc
                  cases h
                  rw [hf] at hz
                  generalize hl : (ents.toList.filter fun e => !hasN seen e.born) = L at *
                  cases hz with
                  | @cons _ _ v' _ _ ys rv hrest =>
                  cases hrest
                  have hold : b < since := hlt
                  have hset : (setObj (ρ.blk r) (.mapIter (some (ρ.blk k)) since (seen ++ [b]).toArray c)).run P w = .ok () { w with heap := w.heap.setIfInBounds (ρ.blk r) (.mapIter (some (ρ.blk k)) since (seen ++ [b]).toArray c) } := by simp [setObj, Sem.run, h1]
                  refine ⟨ρ, .tuple #[.bool true, kk, v'], _, ?_, hm.put hg rfl (setObj_but w (ρ.blk r) (.mapIter (some (ρ.blk k)) since (seen ++ [b]).toArray c)) fun _ => ⟨setObj_heap h1, h0, hdk⟩, VR.tupleL (.cons (.bool true) (.cons (.plain hpl) (.cons rv .nil)))⟩
                  show (Instr.next (.pointer (some ⟨ρ.blk r, ρ.off r + 0, none⟩)) false ty).run P w = _
                  simp only [Instr.next, h0, Sem.run_bind, hgo, hgm, Result.andThen_ok, hno, hleft]
                  simp [Question.forced, hold, Nat.not_le.2 hold]
                  simp [hset]
                · cases hc
              · cases hc
            · cases h
          · cases h
        · cases h
      · cases h
    · cases h
  · cases h
def findB : List (Value × Value × Nat) → Nat → Option (Value × Value)
  | [], _ => none
  | (k, v, b) :: l, s => match Nat.beq b s with | true => some (k, v) | false => findB l s
def entryE (it : Value) (m : AMem) : Option (Value × AMem) :=
  match it with
  | .pointer (some ⟨r, 0, none⟩) => match m.get r with
    | some (.iter (some k) _ seen last) => match seen.getLast?, m.get k with
      | some s, some (.amap es bs c) => match Nat.beq c last, findB (zipM es bs) s with
        | true, some (kk, v) => (match plainV kk with | true => some (.tuple #[kk, v], m) | false => none)
        | _, _ => none
      | _, _ => none
    | _ => none
  | _ => none
theorem findB_ok {xs : List (Value × Value × Nat)} {ys : List MapEntry} (h : ZR ρ xs ys) : ∀ {s : Nat} {k u : Value}, findB xs s = some (k, u) → ∃ e, ys.find? (·.born == s) = some e ∧ e.key = k ∧ VR ρ u e.val := by
  induction h with
  | nil => intro s k u h; cases h
  | @cons k0 u0 v0 b0 xs ys r _ ih =>
    intro s k u h
    unfold findB at h
    split at h
    · rename_i hb
      cases h
      have := Nat.eq_of_beq_eq_true hb
      subst this
      exact ⟨⟨k0, v0, b0⟩, by simp, rfl, r⟩
    · rename_i hb
      obtain ⟨e, h1, h2⟩ := ih h
      refine ⟨e, ?_, h2⟩
      rw [List.find?_cons_of_neg (by
        simp only [beq_iff_eq]
        intro e2; subst e2; rw [Nat.beq_refl] at hb; cases hb)]
      exact h1
theorem entryE_ok {x x' y : Value} (h : entryE x m = some (y, m')) (rx : VR ρ x x') (hm : Mem w0 ρ m w) : RunT P w0 ρ m w (Instr.entry x') y m' := by
  unfold entryE at h
  split at h
  · rename_i r
    split at h
    · rename_i k since seen last hg
      split at h
      · rename_i s es bs c hs hgk
        split at h
        · rename_i kk v hcl hf
          split at h
          · rename_i hpl
            cases h
            have hcl := Nat.eq_of_beq_eq_true hcl
            subst hcl
            obtain ⟨_, _, h1, h0, hdk⟩ := hm.obj r _ hg rfl
            obtain ⟨_, _, ents, e1, e2, e3, e4⟩ := hm.obj k _ hgk rfl
            have hgo : (getObj (ρ.blk r)).run P w = .ok (.mapIter (some (ρ.blk k)) since seen.toArray c) w := by simp [getObj, Sem.run, h1]
            have hgm : (getObj (ρ.blk k)).run P w = .ok (.map ents c) w := by simp [getObj, Sem.run, e1]
            obtain ⟨e, q1, q2, q3⟩ := findB_ok (zipM_ok e2 e3 e4) hf
            rw [Array.find?_toList] at q1
            cases rx
            refine ⟨ρ, .tuple #[e.key, e.val], w, ?_, Ev.refl hm, VR.tupleL (.cons (by rw [q2]; exact .plain hpl) (.cons q3 .nil))⟩
            show (Instr.entry (.pointer (some ⟨ρ.blk r, ρ.off r + 0, none⟩))).run P w = _
            simp [Instr.entry, h0, hgo, hgm, hs, q1]
          · cases h
        · cases h
      · cases h
    · cases h
  · cases h
end
end Go.V

namespace Go.V
open Go.RowKit (Below)
section
variable {ρ ρ' : Rn} {m m' : AMem} {w w' w0 : World}
def CallOk (P : Program) (w0 : World) (callE : FuncId → List Value → AMem → Option (Value × AMem)) : Prop :=
  ∀ f us m u m', callE f us m = some (u, m') → Enters P f ∧ ∀ ρ vs w, LR ρ us vs → Mem w0 ρ m w → Calls P f vs.toArray w fun en w' => ∃ ρ' v, Ev w0 ρ m w ρ' m' w' ∧ VR ρ' u v ∧ en = .returned v
def CallOkD (P : Program) (w0 : World) (callE : FuncId → List Value → AMem → Option (Value × AMem)) : Prop :=
  ∀ f us m u m', callE f us m = some (u, m') → Enters P f ∧ ∀ ρ vs w, LR ρ us vs → Mem w0 ρ m w → ∀ um, CallsD P f vs.toArray um w fun en um' w' => um' = um ∧ ∃ ρ' v, Ev w0 ρ m w ρ' m' w' ∧ VR ρ' u v ∧ en = .returned v
theorem undefR : VR ρ undef undef := by
  unfold undef
  first | exact .plain rfl | exact .tuple _ _ rfl (fun i u v h => by simp at h)
def callR (callE : FuncId → List Value → AMem → Option (Value × AMem)) (g : FuncId) (rs : List Sh) (us : List Value) (m : AMem) : Option (Value × AMem) :=
  match callE g us m with
  | some (u, m') => match isR rs u with | true => some (u, m') | false => none
  | none => none
theorem callR_ok {P : Program} {callE : FuncId → List Value → AMem → Option (Value × AMem)} (hc : CallOk P w0 callE) {g : FuncId} {rs : List Sh} {us vs : List Value} {u : Value} (h : callR callE g rs us m = some (u, m')) (r : LR ρ us vs) (hm : Mem w0 ρ m w) {K : Value → World → Prop}
    (k : ∀ ρ' v w', Ev w0 ρ m w ρ' m' w' → VR ρ' u v → K v w') : CallV P g vs.toArray rs K w := by
  unfold callR at h
  split at h
  · rename_i u1 m1 h1
    split at h
    · rename_i h2
      cases h
      refine Calls.mono ((hc g us m u m' h1).2 ρ vs w r hm) ?_
      rintro en w' ⟨ρ', v, l, rv, rfl⟩
      exact isR_ex h2 rv ⟨rfl, k ρ' v w' l rv⟩
    · cases h
  · cases h
def buildSliceE (T : Tab) (t n : Nat) (parts : List (Nat × Value)) (m : AMem) : Option (Value × AMem) :=
  match T.t t with
  | some i => match i.idx, T.t i.elem with
    | some (none, sz), some j => match j.zero with
      | some z => match z.all plainV && (Nat.beq z.length sz && Nat.ble (n * sz) 16777216) && Nat.blt n symB with
        | true => match Instr.fill (fun j => some (j * sz, sz)) (litCells z n).toArray parts with
          | some cs => some (.slice (some ⟨m.next, 0, none⟩) n n, m.new cs.toList i.elem)
          | none => none
        | false => none
      | none => none
    | _, _ => none
  | none => none
theorem litL {z : List Value} (h : LR ρ z z) : ∀ n, LR ρ (litCells z n) (litCells z n)
  | 0 => .nil
  | n + 1 => ⟨rfl, fun i u v h1 h2 => by
    rw [h1] at h2; cases h2
    unfold litCells at h1
    rcases Nat.lt_or_ge i z.length with hi | hi
    · rw [List.getElem?_append_left hi] at h1; exact h.at_ i u u h1 h1
    · rw [List.getElem?_append_right hi] at h1; exact (litL h n).at_ _ u u h1 h1⟩
theorem newSlice (hm : Mem w0 ρ m w) {cs : Array Value} {ds : Array Value} (r : LR ρ cs.toList ds.toList) (ty n : Nat) (hn : Nat.blt n symB = true) {K : Value → World → Prop} (k : ∀ ρ' v w', Ev w0 ρ m w ρ' (m.new cs.toList ty) w' → VR ρ' (.slice (some ⟨m.next, 0, none⟩) n n) v → K v w') :
    AllocK w ds ty fun b w' => K (.slice (some b) n n) w' := by
  have e : ds = ds.toList.toArray := by simp
  rw [e]
  refine hm.new r ty fun ρ' w1 l hd => ?_
  have ec : ρ'.c n = n := ρ'.c_lit hn
  have v := VR.slice (ρ := ρ') (some ⟨m.next, 0, none⟩) n n (by rw [ec]; exact Nat.le_refl _) (fun p hp => by cases hp; exact hd) (.inl hn)
  rw [ec] at v
  exact k ρ' _ w1 l v
theorem buildSliceE_ok {T : Tab} {t n : Nat} {xs ys : List (Nat × Value)} {u : Value} (h : buildSliceE T t n xs m = some (u, m')) (p : PR ρ xs ys) (hm : Mem w0 ρ m w) {K : Value → World → Prop} (k : ∀ ρ' v w', Ev w0 ρ m w ρ' m' w' → VR ρ' u v → K v w') : buildSliceK T t n ys w K := by
  unfold buildSliceE at h
  split at h
  · rename_i i hi
    split at h
    · rename_i sz j h1 h2
      split at h
      · rename_i z hz
        split at h
        · rename_i hb
          split at h
          · rename_i cs hf
            cases h
            simp only [Bool.and_eq_true] at hb
            obtain ⟨⟨b1, b2, b3⟩, b4⟩ := hb
            have hl : LR ρ (litCells z n).toArray.toList (litCells z n).toArray.toList := by simpa using litL (plainL b1) n
            obtain ⟨r', hf', rr⟩ := fillR p hl hf
            unfold buildSliceK
            rw [hi]; simp only; rw [h1, h2]; simp only; rw [hz]; simp only
            rw [b2, b3]; simp only [Bool.and_self]; rw [hf']; simp only
            exact newSlice hm rr i.elem n b4 k
          · cases h
        · cases h
      · cases h
    · cases h
  · cases h
theorem newSlice2 (hm : Mem w0 ρ m w) {cs ds : List Value} (r : LR ρ cs ds) (ty n c : Nat) (hn : n ≤ c) (hcb : Nat.blt c symB = true) {K : Value → World → Prop} (k : ∀ ρ' v w', Ev w0 ρ m w ρ' (m.new cs ty) w' → VR ρ' (.slice (some ⟨m.next, 0, none⟩) n c) v → K v w') :
    AllocK w ds.toArray ty fun b w' => K (.slice (some b) n c) w' := by
  refine hm.new r ty fun ρ' w1 l hd => ?_
  have ec : ρ'.c c = c := ρ'.c_lit hcb
  have v := VR.slice (ρ := ρ') (some ⟨m.next, 0, none⟩) n c (by rw [ec]; exact hn) (fun p hp => by cases hp; exact hd) (.inl hcb)
  rw [ec] at v
  exact k ρ' _ w1 l v
def makeE (T : Tab) (t : Nat) (l c : Value) (m : AMem) : Option (Value × AMem) :=
  match T.t t, l, c with
  | some i, .int _ l, .int _ c => match i.idx, T.t i.elem with
    | some (none, sz), some j => match j.zero with
      | some z => if 0 ≤ l ∧ l ≤ c ∧ (j.bytes : Int) * c ≤ 281474976710656 ∧ c ≤ 9223372036854775807 then
          (match (madeCells z.toArray (c.toNat * sz)).toList.all plainV && Nat.blt c.toNat symB with
            | true => some (.slice (some ⟨m.next, 0, none⟩) l.toNat c.toNat, m.new (madeCells z.toArray (c.toNat * sz)).toList i.elem)
            | false => none)
        else none
      | none => none
    | _, _ => none
  | _, _, _ => none
theorem makeE_ok {P : Program} {T : Tab} {t : Nat} {l c l' c' u : Value} (h : makeE T t l c m = some (u, m')) (rl : VR ρ l l') (rc : VR ρ c c') (hm : Mem w0 ρ m w) {K : Value → World → Prop} (k : ∀ ρ' v w', Ev w0 ρ m w ρ' m' w' → VR ρ' u v → K v w') : makeK P T t l' c' w K := by
  unfold makeE at h
  split at h
  · rename_i i k1 l k2 c hi
    cases rl; cases rc
    unfold makeK
    rw [hi]; simp only
    split at h
    · rename_i sz j h1 h2
      rw [h1, h2]; simp only
      split at h
      · rename_i z hz
        split at h
        · rename_i hc
          split at h
          · rename_i hb
            cases h
            simp only [Bool.and_eq_true] at hb
            refine ⟨hc, ?_⟩
            have e : zeroA P i.elem j = z.toArray := by unfold zeroA; rw [hz]
            rw [e]
            have e2 : madeCells z.toArray (c.toNat * sz) = (madeCells z.toArray (c.toNat * sz)).toList.toArray := by simp
            rw [e2]
            exact newSlice2 hm (plainL hb.1) i.elem l.toNat c.toNat (by omega) hb.2 (by simpa using k)
          · cases h
        · cases h
      · cases h
    · cases h
  · cases h
theorem callArgsR {as bs cs as' bs' cs' : List Value} (h1 : LR ρ as as') (h2 : LR ρ bs bs') (h3 : LR ρ cs cs') : ∃ vs, callArgs as' bs' cs' = vs.toArray ∧ LR ρ (as ++ bs ++ cs) vs := by
  have app : ∀ {x y x' y' : List Value}, LR ρ x x' → LR ρ y y' → LR ρ (x ++ y) (x' ++ y') := fun {x y x' y'} a b => ⟨by simp [a.len, b.len], fun i u v p q => by
    rcases Nat.lt_or_ge i x.length with hi | hi
    · rw [List.getElem?_append_left hi] at p
      rw [List.getElem?_append_left (by rw [← a.len]; exact hi)] at q
      exact a.at_ i u v p q
    · rw [List.getElem?_append_right hi] at p
      rw [List.getElem?_append_right (by rw [← a.len]; exact hi), ← a.len] at q
      exact b.at_ _ u v p q⟩
  refine ⟨as' ++ bs' ++ cs', ?_, app (app h1 h2) h3⟩
  unfold callArgs
  split
  · simp
  · rfl
def chk (rs : List Sh) : Option (Value × AMem) → Option (Value × AMem)
  | some (u, m) => match isR rs u with | true => some (u, m) | false => none
  | none => none
def pureO (m : AMem) : Option Value → Option (Value × AMem)
  | some u => some (u, m)
  | none => none
def unitO : Option AMem → Option (Value × AMem)
  | some m => some (undef, m)
  | none => none
def moreE (P : Program) (T : Tab) (o : Oper) (e : Env) (m : AMem) : Option (Value × AMem) :=
  match o.op with
  | .call { callee := .builtin .append, args := xs, argTypes := ts } => match ts, evsE e xs.toList with
    | ⟨[t, u]⟩, some [d, x] => chk (rsOf T o.type) (appE P t u d x m)
    | _, _ => none
  | .call { callee := .builtin .delete, args := xs, argTypes := ts } => match ts, evsE e xs.toList with
    | ⟨[t, _]⟩, some [x, k] => (match delE P t m x k with | some m' => some (.tuple #[], m') | none => none)
    | _, _ => none
  | .call { callee := .builtin .len, args := xs, argTypes := ts } => match ts, evsE e xs.toList with
    | ⟨[t]⟩, some [x] => chk (rsOf T o.type) (pureO m (lenMapE P t m x))
    | _, _ => none
  | .call { callee := .builtin .clear, args := xs, argTypes := ts } => match ts, evsE e xs.toList with
    | ⟨[t]⟩, some [x] => chk [] (clearE P t x m)
    | _, _ => none
  | .convert s d x => match evE e x with | some x => chk (rsOf T o.type) (cvE P s d x m) | none => none
  | .slice t x lo hi mx => match evE e x, optE e lo, optE e hi, optE e mx with | some x, some l, some h, some mx => chk (rsOf T o.type) (pureO m (cut3E P t m x l h mx)) | _, _, _, _ => none
  | .makeMap t r => match optE e r with | some r => chk (rsOf T o.type) (mkMapE P t r m) | none => none
  | .lookup t x i ok => match evE e x, evE e i with | some x, some i => chk (rsOf T o.type) (pureO m (lookE P t m x i ok)) | _, _ => none
  | .mapUpdate t x k v => match evE e x, evE e k, evE e v with | some x, some k, some v => unitO (updE P t m x k v) | _, _, _ => none
  | .insert t x k v => match evE e x, evE e k, evE e v with | some x, some k, some v => unitO (updE P t m x k v) | _, _, _ => none
  | .range t x => match evE e x with | some x => rangeE P t x m | none => none
  | .next it s => match evE e it with | some x => nextE x s m | none => none
  | .entry it => match evE e it with | some x => entryE x m | none => none
  | _ => none
theorem chk_some {rs : List Sh} {o : Option (Value × AMem)} {u : Value} (h : chk rs o = some (u, m')) : o = some (u, m') ∧ isR rs u = true := by
  unfold chk at h
  split at h
  · split at h
    · rename_i hr; cases h; exact ⟨rfl, hr⟩
    · cases h
  · cases h
theorem pureO_some {o : Option Value} {u : Value} (h : pureO m o = some (u, m')) : o = some u ∧ m' = m := by
  unfold pureO at h
  split at h
  · cases h; exact ⟨rfl, rfl⟩
  · cases h
theorem unitO_some {o : Option AMem} {u : Value} (h : unitO o = some (u, m')) : o = some m' ∧ u = undef := by
  unfold unitO at h
  split at h
  · cases h; exact ⟨rfl, rfl⟩
  · cases h
theorem evs1 {e e' : Env} (he : ER ρ e e') {xs : List Operand} {a : Value} (h : evsE e xs = some [a]) {F : List Value → Prop} (k : ∀ a', VR ρ a a' → F [a']) : evs e' xs F := evsE_ok he h fun vs r => by
  obtain ⟨a', vs1, rfl, ra, r1⟩ := r.inv_cons
  rw [r1.inv_nil]; exact k a' ra
theorem evs2 {e e' : Env} (he : ER ρ e e') {xs : List Operand} {a b : Value} (h : evsE e xs = some [a, b]) {F : List Value → Prop} (k : ∀ a' b', VR ρ a a' → VR ρ b b' → F [a', b']) : evs e' xs F := evsE_ok he h fun vs r => by
  obtain ⟨a', vs1, rfl, ra, r1⟩ := r.inv_cons
  obtain ⟨b', vs2, rfl, rb, r2⟩ := r1.inv_cons
  rw [r2.inv_nil]; exact k a' b' ra rb
theorem moreE_ok {P : Program} {T : Tab} {o : Oper} {e e' : Env} {u : Value} (h : moreE P T o e m = some (u, m')) (he : ER ρ e e') (hm : Mem w0 ρ m w) {K : Value → World → Prop}
    (k : ∀ ρ' v w', Ev w0 ρ m w ρ' m' w' → VR ρ' u v → K v w') : effV P T o e' K w := by
  unfold moreE at h
  unfold effV
  split at h
  · rename_i xs ts hop
    rw [hop]; simp only
    split at h
    · rename_i t u' d x hx
      obtain ⟨h, hr⟩ := chk_some h
      exact evs2 he hx fun d' x' rd rx => (appE_ok h rd rx hm).n hr k
    · cases h
  · rename_i xs ts hop
    rw [hop]; simp only
    split at h
    · rename_i t u' x kk hx
      split at h
      · rename_i m1 h1
        cases h
        exact evs2 he hx fun x' k' rx rk => (delE_ok h1 rx rk hm).n rfl k
      · cases h
    · cases h
  · rename_i xs ts hop
    rw [hop]; simp only
    split at h
    · rename_i t x hx
      obtain ⟨h, hr⟩ := chk_some h
      obtain ⟨h, rfl⟩ := pureO_some h
      exact evs1 he hx fun x' rx => (lenMapE_ok h rx hm).n hr k
    · cases h
  · rename_i xs ts hop
    rw [hop]; simp only
    split at h
    · rename_i t x hx
      obtain ⟨h, hr⟩ := chk_some h
      exact evs1 he hx fun x' rx => (clearE_ok h rx hm).n hr k
    · cases h
  · rename_i s d x hop
    rw [hop]; simp only
    split at h
    · rename_i x1 hx
      obtain ⟨h, hr⟩ := chk_some h
      exact evE_ofV he hx fun x' rx => (cvE_ok h rx hm).n hr k
    · cases h
  · rename_i t x lo hi mx hop
    rw [hop]; simp only
    split at h
    · rename_i x1 l1 h1 m1 hx hl hh hmx
      obtain ⟨h, hr⟩ := chk_some h
      obtain ⟨h, rfl⟩ := pureO_some h
      exact evE_ofV he hx fun x' rx => optE_ok he hl fun l' rl => optE_ok he hh fun h' rh => optE_ok he hmx fun m' rm => (cut3E_ok h rx rl rh rm hm).n hr k
    · cases h
  · rename_i t r hop
    rw [hop]; simp only
    split at h
    · rename_i r1 hx
      obtain ⟨h, hr⟩ := chk_some h
      exact optE_ok he hx fun r' rr => (mkMapE_ok h rr hm).n hr k
    · cases h
  · rename_i t x i ok hop
    rw [hop]; simp only
    split at h
    · rename_i x1 i1 hx hi
      obtain ⟨h, hr⟩ := chk_some h
      obtain ⟨h, rfl⟩ := pureO_some h
      exact evE_ofV he hx fun x' rx => evE_ofV he hi fun i' ri => (lookE_ok h rx ri hm).n hr k
    · cases h
  · rename_i t x kk v hop
    rw [hop]; simp only
    split at h
    · rename_i x1 k1 v1 hx hk hv
      obtain ⟨hq, rfl⟩ := unitO_some h
      refine evE_ofV he hx fun x' rx => evE_ofV he hk fun k' rk => evE_ofV he hv fun v' rv => ?_
      obtain ⟨w', h1, h2⟩ := updE_ok hq rx rk rv hm
      exact ⟨w', h1, k ρ undef w' h2 undefR⟩
    · cases h
  · rename_i t x kk v hop
    rw [hop]; simp only
    split at h
    · rename_i x1 k1 v1 hx hk hv
      obtain ⟨hq, rfl⟩ := unitO_some h
      refine evE_ofV he hx fun x' rx => evE_ofV he hk fun k' rk => evE_ofV he hv fun v' rv => ?_
      obtain ⟨w', h1, h2⟩ := updE_ok hq rx rk rv hm
      exact ⟨w', h1, k ρ undef w' h2 undefR⟩
    · cases h
  · rename_i t x hop
    rw [hop]; simp only
    split at h
    · rename_i x1 hx
      refine evE_ofV he hx fun x' rx => ?_
      obtain ⟨ρ', v, w', h1, h2, h3⟩ := rangeE_ok (P := P) h rx hm
      exact ⟨v, w', h1, k ρ' v w' h2 h3⟩
    · cases h
  · rename_i it s hop
    rw [hop]; simp only
    split at h
    · rename_i x1 hx
      refine evE_ofV he hx fun x' rx => ?_
      obtain ⟨ρ', v, w', h1, h2, h3⟩ := nextE_ok (P := P) (ty := o.type) h rx hm
      exact ⟨v, w', h1, k ρ' v w' h2 h3⟩
    · cases h
  · rename_i it hop
    rw [hop]; simp only
    split at h
    · rename_i x1 hx
      refine evE_ofV he hx fun x' rx => ?_
      obtain ⟨ρ', v, w', h1, h2, h3⟩ := entryE_ok (P := P) h rx hm
      exact ⟨v, w', h1, k ρ' v w' h2 h3⟩
    · cases h
  · cases h
def effE (P : Program) (T : Tab) (callE : FuncId → List Value → AMem → Option (Value × AMem)) (o : Oper) (e : Env) (m : AMem) : Option (Value × AMem) :=
  match o.op with
  | .alloc t => match T.t t with | some i => (match i.zero with | some z => (match z.all plainV with | true => some (.pointer (some ⟨m.next, 0, none⟩), m.new z t) | false => none) | none => none) | none => none
  | .box t x => match evE e x with | some u => some (.pointer (some ⟨m.next, 0, none⟩), m.new u.cells.toList t) | none => none
  | .store t x y => match evE e x, evE e y with | some p, some u => (match stoE T t p u m with | some m' => some (undef, m') | none => none) | _, _ => none
  | .buildSlice t n ps => match evpsE e ps.toList with | some vs => buildSliceE T t n vs m | none => none
  | .call { callee := .value (.func g), args := xs, .. } => match evsE e xs.toList, look T.fn g with | some us, some rs => callR callE g rs us m | _, _ => none
  | .makeFunc f first cap => match evsE e first.toList, evsE e cap.toList with | some a, some b => some (.func f a.toArray b.toArray, m) | _, _ => none
  | .makeSlice t l c => match evE e l, evE e c with | some l, some c => makeE T t l c m | _, _ => none
  | .call { callee := .value (.tmp f), args := xs, .. } => match evE e (.tmp f), evsE e xs.toList with
    | some (.func (.func g) first cap), some us => callR callE g (rsOf T o.type) (first.toList ++ us ++ cap.toList) m
    | _, _ => none
  | _ => moreE P T o e m
theorem newPtr (hm : Mem w0 ρ m w) {cs ds : List Value} (r : LR ρ cs ds) (ty : Nat) {K : Value → World → Prop} (k : ∀ ρ' v w', Ev w0 ρ m w ρ' (m.new cs ty) w' → VR ρ' (.pointer (some ⟨m.next, 0, none⟩)) v → K v w') :
    AllocK w ds.toArray ty fun b w' => K (.pointer (some b)) w' :=
  hm.new r ty fun ρ' w1 l hd => k ρ' _ w1 l (.pointer (some _) fun p hp => by cases hp; exact hd)
theorem funcR {f : Fn} {as bs as' bs' : List Value} (h : LR ρ as as') (k : LR ρ bs bs') : VR ρ (.func f as.toArray bs.toArray) (.func f as'.toArray bs'.toArray) :=
  .func _ _ _ _ _ (by simp [h.len]) (by simp [k.len]) (fun i u v a b => h.at_ i u v (by simpa using a) (by simpa using b)) (fun i u v a b => k.at_ i u v (by simpa using a) (by simpa using b))
theorem effE_ok {P : Program} {T : Tab} {callE : FuncId → List Value → AMem → Option (Value × AMem)} (hc : CallOk P w0 callE) {o : Oper} {e e' : Env} {u : Value} (h : effE P T callE o e m = some (u, m')) (he : ER ρ e e') (hm : Mem w0 ρ m w) {K : Value → World → Prop}
    (k : ∀ ρ' v w', Ev w0 ρ m w ρ' m' w' → VR ρ' u v → K v w') : effV P T o e' K w := by
  unfold effE at h
  split at h
  case h_9 => exact moreE_ok h he hm k
  all_goals unfold effV
  · rename_i t hop
    rw [hop]; simp only
    split at h
    · rename_i i hi
      split at h
      · rename_i z hz
        split at h
        · rename_i hp
          cases h
          rw [hi]; simp only
          have : zeroA P t i = z.toArray := by unfold zeroA; rw [hz]
          rw [this]
          exact newPtr hm (plainL hp) t k
        · cases h
      · cases h
    · cases h
  · rename_i t x hop
    rw [hop]; simp only
    split at h
    · rename_i u0 h1
      cases h
      refine evE_ofV he h1 fun v r => ?_
      have ee : v.cells = v.cells.toList.toArray := by simp
      rw [ee]
      exact newPtr hm (cellsR r) t k
    · cases h
  · rename_i t x y hop
    rw [hop]; simp only
    split at h
    · rename_i p u0 h1 h2
      split at h
      · rename_i m1 h3
        cases h
        refine evE_ofV he h1 fun p' rp => ?_
        obtain ⟨v, hv, r⟩ := evE_ok he h2
        have s := stoE_ok (F := fun w' => K undef w') h3 rp r hm fun w1 v1 => k ρ undef w1 v1 undefR
        obtain ⟨q, rfl, s⟩ := ptrOf_some s
        show ofV (ev e' y) fun u => stK T t q u w fun w' => K undef w'
        rw [hv]; exact s
      · cases h
    · cases h
  · rename_i t n ps hop
    rw [hop]; simp only
    split at h
    · rename_i vs h1
      exact evpsE_ok he h1 fun vs' p => buildSliceE_ok h p hm k
    · cases h
  · rename_i g xs hop
    rw [hop]; simp only
    split at h
    · rename_i us rs h1 h2
      refine evsE_ok he h1 fun vs r => ?_
      rw [h2]
      exact callR_ok hc h r hm k
    · cases h
  · rename_i f first cap hop
    rw [hop]; simp only
    split at h
    · rename_i a b h1 h2
      cases h
      exact evsE_ok he h1 fun as r1 => evsE_ok he h2 fun bs r2 => k ρ _ w (Ev.refl hm) (funcR r1 r2)
    · cases h
  · rename_i t l c hop
    rw [hop]; simp only
    split at h
    · rename_i l1 c1 h1 h2
      exact evE_ofV he h1 fun l' rl => evE_ofV he h2 fun c' rc => makeE_ok h rl rc hm k
    · cases h
  · rename_i f xs _ hop
    rw [hop]; simp only
    split at h
    · rename_i g first cap us h1 h2
      refine evE_ofV he h1 fun v r => ?_
      have r0 := r
      cases r with
      | func _ _ _ xs' ys' a1 a2 a3 a4 =>
        refine evsE_ok he h2 fun vs rs => ?_
        have hen : Enters P g := by
          unfold callR at h
          split at h
          · rename_i u1 m1 hcg; exact (hc _ _ _ _ _ hcg).1
          · cases h
        obtain ⟨ws, e1, rw1⟩ := callArgsR (ρ := ρ) (as := first.toList) (as' := xs'.toList) (bs := us) (bs' := vs) (cs := cap.toList) (cs' := ys'.toList) ⟨by simpa using a1, fun i u v p q => a3 i u v (by simpa using p) (by simpa using q)⟩ rs ⟨by simpa using a2, fun i u v p q => a4 i u v (by simpa using p) (by simpa using q)⟩
        refine ⟨hen, ?_⟩
        rw [e1]
        exact callR_ok hc h rw1 hm k
    · cases h
end
end Go.V

namespace Go.V
open Go.RowKit (Below)
section
variable {ρ ρ' : Rn} {m m' : AMem} {w w' w0 : World}
theorem ER.set {e e' : Env} (h : ER ρ e e') (d : Option Nat) {u v : Value} (r : VR ρ u v) : ER ρ (setD e d u) (setD e' d v) := by
  cases d with
  | none => exact h
  | some t =>
    intro s x hx
    by_cases e1 : t = s
    · subst e1
      rw [setD, get_cons_same] at hx
      cases hx
      exact ⟨v, by rw [setD, get_cons_same], r⟩
    · rw [setD, get_cons_ne e1] at hx
      rw [setD, get_cons_ne e1]
      exact h s x hx
def pure2E (T : Tab) (op : Op) (e : Env) (m : AMem) : Option Value :=
  match op with
  | .slice t x lo hi none => match evE e x, optE e lo, optE e hi with | some a, some l, some h => sliceE T t a l h (availE m a) | _, _, _ => none
  | _ => none
theorem pure2E_ok {T : Tab} {op : Op} {e e' : Env} {u : Value} (h : pure2E T op e m = some u) (he : ER ρ e e') (hm : Mem w0 ρ m w) {F : Value → Prop} (k : ∀ v, VR ρ u v → F v) : pureV T op e' w F := by
  unfold pure2E at h
  split at h
  · rename_i t x lo hi
    split at h
    · rename_i a l hh h1 h2 h3
      unfold pureV
      exact evE_ofV he h1 fun v r => optE_ok he h2 fun l' rl => optE_ok he h3 fun h' rh => sliceE_ok h (availE_ok hm) r rl rh k
    · cases h
  · cases h
def opE (P : Program) (T : Tab) (callE : FuncId → List Value → AMem → Option (Value × AMem)) (o : Oper) (e : Env) (m : AMem) : Option (Value × AMem) :=
  match isPure T o.op with
  | true => match pureE T o.op e m with
    | some u => some (u, m)
    | none => match pure2E T o.op e m with | some u => some (u, m) | none => none
  | false => effE P T callE o e m
theorem opE_ok {P : Program} {T : Tab} {callE : FuncId → List Value → AMem → Option (Value × AMem)} (hc : CallOk P w0 callE) {o : Oper} {e e' : Env} {u : Value} (h : opE P T callE o e m = some (u, m')) (he : ER ρ e e') (hm : Mem w0 ρ m w) {K : Value → World → Prop}
    (k : ∀ ρ' v w', Ev w0 ρ m w ρ' m' w' → VR ρ' u v → K v w') : opV P T o e' K w := by
  unfold opE at h
  unfold opV
  split at h
  · rename_i hp
    rw [hp]; simp only
    split at h
    · rename_i u1 h1
      cases h
      exact pureE_ok h1 he hm.c fun v r => k ρ v w (Ev.refl hm) r
    · split at h
      · rename_i u1 h1
        cases h
        exact pure2E_ok h1 he hm fun v r => k ρ v w (Ev.refl hm) r
      · cases h
  · rename_i hp
    rw [hp]; simp only
    exact effE_ok hc h he hm k
def guardB (ops : Array Oper) (g : Option (Nat × Bool)) (e : Env) : Option (Bool × Env) :=
  match g with
  | none => some (true, e)
  | some (j, want) => match (ops[j]?).bind (·.dst) with
    | none => none
    | some t => match get e t with
      | some (.bool b) => some (b == want, (t, .bool b) :: e)
      | some (.tuple _) => some (false, e)
      | _ => none
theorem guardB_ok {ops : Array Oper} {g : Option (Nat × Bool)} {e e' e1 : Env} {x : Bool} (h : guardB ops g e = some (x, e1)) (he : ER ρ e e') {X Y : Env → Prop} (k : ∀ e1', ER ρ e1 e1' → (x = true → X e1') ∧ (x = false → Y e1')) : guardV ops g e' X Y := by
  unfold guardB at h
  unfold guardV
  split at h
  · cases h; exact (k e' he).1 rfl
  · rename_i j want
    simp only
    split at h
    · cases h
    · rename_i t ht
      rw [ht]; simp only
      split at h
      · rename_i b hb
        obtain ⟨v, hv, r⟩ := he t _ hb
        cases r
        cases h
        rw [hv]; simp only
        have hk := k ((t, .bool b) :: e') (ER.set he (some t) (.bool b))
        cases b <;> cases want <;> first | exact hk.1 rfl | exact hk.2 rfl
      · rename_i vs hb
        obtain ⟨v, hv, r⟩ := he t _ hb
        obtain ⟨ys, rfl, _⟩ := r.tuple_inv
        cases h
        rw [hv]
        exact (k e' he).2 rfl
      · cases h
def opsE (P : Program) (T : Tab) (callE : FuncId → List Value → AMem → Option (Value × AMem)) (ops : Array Oper) : List Oper → Env → AMem → Option (Env × AMem)
  | [], e, m => some (e, m)
  | o :: os, e, m => match guardB ops o.guard e with
    | some (true, e1) => (match opE P T callE o e1 m with | some (u, m1) => opsE P T callE ops os (setD e1 o.dst u) m1 | none => none)
    | some (false, e1) => opsE P T callE ops os (setD e1 o.dst undef) m
    | none => none
theorem opsE_ok {P : Program} {T : Tab} {callE : FuncId → List Value → AMem → Option (Value × AMem)} (hc : CallOk P w0 callE) {ops : Array Oper} : ∀ (os : List Oper) {ρ : Rn} {m : AMem} {w : World} {e e' e2 : Env}, opsE P T callE ops os e m = some (e2, m') → ER ρ e e' → Mem w0 ρ m w → ∀ {K : Env → World → Prop},
    (∀ ρ' e2' w', Ev w0 ρ m w ρ' m' w' → ER ρ' e2 e2' → K e2' w') → opsV P T ops os e' K w := by
  intro os
  induction os with
  | nil => intro ρ m w e e' e2 h he hm K k; cases h; exact k ρ e' w (Ev.refl hm) he
  | cons o os ih =>
    intro ρ m w e e' e2 h he hm K k
    unfold opsE at h
    split at h
    · rename_i e1 hg
      split at h
      · rename_i u m1 ho
        refine guardB_ok hg he fun e1' he1 => ⟨fun _ => ?_, fun hx => by cases hx⟩
        refine opE_ok hc ho he1 hm fun ρ1 v w1 v1 r1 => ?_
        exact ih h (ER.set (he1.mono v1.le) o.dst r1) v1.mem fun ρ2 e2' w2 v2 he2 => k ρ2 e2' w2 (Ev.trans hm v1 v2) he2
      · cases h
    · rename_i e1 hg
      refine guardB_ok hg he fun e1' he1 => ⟨fun hx => (by cases hx), fun _ => ?_⟩
      exact ih h (ER.set he1 o.dst undefR) hm k
    · cases h
end
end Go.V
