/- A part of the proof: plain forms of functions and laws about them. -/
import Derived.Test.YtnmldggopnbclaaGreatDoorGrliAp
namespace Go.V
open Go.RowKit (Below)
section
variable {ρ : Rn} {m : AMem} {w : World}
def pureE (T : Tab) (op : Op) (e : Env) (m : AMem) : Option Value :=
 match op with
 | .move x | .assign x => evE e x
 | .pick c a b => match evE e c with | some (.bool t) => (match t with | true => evE e a | false => evE e b) | _ => none
 | .load t x => match evE e x, T.t t with | some (.pointer (some p)), some i => ldE i.sh m p | _, _ => none
 | .nilCheck x => match evE e x with | some (.pointer (some p)) => some (.pointer (some p)) | _ => none
 | .binOp op t x y _ => match evE e x, evE e y with | some a, some b => binE T op (cst x || cst y) t a b | _, _ => none
 | .unOp op _ x => match evE e x with | some a => unE op a | none => none
 | .convert s d x => match evE e x with | some a => convE T s d a | none => none
 | .fieldAddr s x f => match evE e x with | some a => fldE T s f a | none => none
 | .field s x f => match evE e x with | some a => fieldE T s f a | none => none
 | .indexAddr t x i => match evE e x, evE e i with | some a, some b => idxE T t a b | _, _ => none
 | .index t x i => match evE e x, evE e i with | some a, some b => strIdxE T t a b | _, _ => none
 | .slice t x lo hi none => match evE e x, optE e lo, optE e hi with | some a, some l, some h => sliceE T t a l h 0 | _, _, _ => none
 | .build t ps => match evpsE e ps.toList with | some vs => buildE T t vs | none => none
 | .extract x i => match evE e x with | some (.tuple vs) => vs[i]? | _ => none
 | .call { callee := .builtin .len, args := xs, argTypes := ts } => match ts.toList, evsE e xs.toList with | [t], some [v] => lenE T t v | _, _ => none
 | .call { callee := .builtin .cap, args := xs, argTypes := ts } => match ts.toList, evsE e xs.toList with | [t], some [v] => capE T t v | _, _ => none
 | .call { callee := .builtin .min, args := xs, argTypes := _ } => match evsE e xs.toList with | some [v, u] => minE v u | _ => none
 | .call { callee := .builtin .max, args := xs, argTypes := _ } => match evsE e xs.toList with | some [v, u] => maxE v u | _ => none
 | _ => none
theorem LR.one {u : Value} {vs : List Value} (h : LR ρ [u] vs) : ∃ v, vs = [v] ∧ VR ρ u v := by
 obtain ⟨v, ys, rfl, r, k⟩ := h.inv_cons
 exact ⟨v, by rw [k.inv_nil], r⟩
theorem LR.two {u u2 : Value} {vs : List Value} (h : LR ρ [u, u2] vs) : ∃ v v2, vs = [v, v2] ∧ VR ρ u v ∧ VR ρ u2 v2 := by
 obtain ⟨v, ys, rfl, r, k⟩ := h.inv_cons
 obtain ⟨v2, rfl, r2⟩ := k.one
 exact ⟨v, v2, rfl, r, r2⟩
theorem pureE_ok {T : Tab} {op : Op} {e e' : Env} {u : Value} (h : pureE T op e m = some u) (he : ER ρ e e') (hm : MemC ρ m w) {F : Value → Prop} (k : ∀ v, VR ρ u v → F v) : pureV T op e' w F := by
 unfold pureE at h
 split at h
 ·exact evE_ofV he h k
 ·exact evE_ofV he h k
 ·split at h
  ·rename_i t hc
   refine evE_ofV he hc fun v r => ?_
   cases r
   split at h
   ·exact evE_ofV he h k
   ·exact evE_ofV he h k
  ·cases h
 ·split at h
  ·rename_i p i h1 h2
   refine evE_ofV he h1 fun v r => ?_
   cases r
   show match T.t _ with | some i => ldSh i.sh w (ρ.a p) F | none => False
   rw [h2]
   exact ldE_ok hm h k
  ·cases h
 ·split at h
  ·rename_i p h1
   cases h
   refine evE_ofV he h1 fun v r => ?_
   have r0 := r
   cases r
   exact k _ r0
  ·cases h
 ·split at h
  ·rename_i a b h1 h2
   exact evE_ofV he h1 fun v r => evE_ofV he h2 fun v2 r2 => binE_ok h r r2 (k _ (binE_plain h))
  ·cases h
 ·split at h
  ·rename_i a h1; exact evE_ofV he h1 fun v r => unE_ok h r k
  ·cases h
 ·split at h
  ·rename_i a h1; exact evE_ofV he h1 fun v r => convE_ok h r k
  ·cases h
 ·split at h
  ·rename_i a h1; exact evE_ofV he h1 fun v r => fldE_ok h r k
  ·cases h
 ·split at h
  ·rename_i a h1; exact evE_ofV he h1 fun v r => fieldE_ok h r k
  ·cases h
 ·split at h
  ·rename_i a b h1 h2; exact evE_ofV he h1 fun v r => evE_ofV he h2 fun v2 r2 => idxE_ok h r r2 k
  ·cases h
 ·split at h
  ·rename_i a b h1 h2; exact evE_ofV he h1 fun v r => evE_ofV he h2 fun v2 r2 => strIdxE_ok h r r2 k
  ·cases h
 ·split at h
  ·rename_i a l hh h1 h2 h3
   exact evE_ofV he h1 fun v r => optE_ok he h2 fun l' rl => optE_ok he h3 fun h' rh => sliceE_ok h (fun _ _ _ _ => Nat.zero_le _) r rl rh k
  ·cases h
 ·split at h
  ·rename_i vs h1; exact evpsE_ok he h1 fun vs' p => buildE_ok h p k
  ·cases h
 ·split at h
  ·rename_i vs h1
   refine evE_ofV he h1 fun v r => ?_
   obtain ⟨ys, rfl, rl⟩ := r.tuple_inv
   obtain ⟨v2, hv, r2⟩ := rl.get (u := u) ((Array.getElem?_toList).trans h)
   rw [Array.getElem?_toList] at hv
   show ofV _ F
   rw [hv]; exact k _ r2
  ·cases h
 ·split at h
  ·rename_i t v h1 h2
   simp only [pureV]
   rw [h1]
   exact evsE_ok he h2 fun vs rs => by obtain ⟨v', rfl, r⟩ := rs.one; exact lenE_ok h r k
  ·cases h
 ·split at h
  ·rename_i t v h1 h2
   simp only [pureV]
   rw [h1]
   exact evsE_ok he h2 fun vs rs => by obtain ⟨v', rfl, r⟩ := rs.one; exact capE_ok h r k
  ·cases h
 ·split at h
  ·rename_i v u2 h2
   exact evsE_ok he h2 fun vs rs => by obtain ⟨v', v2', rfl, r, r2⟩ := rs.two; exact minE_ok h r r2 k
  ·cases h
 ·split at h
  ·rename_i v u2 h2
   exact evsE_ok he h2 fun vs rs => by obtain ⟨v', v2', rfl, r, r2⟩ := rs.two; exact maxE_ok h r r2 k
  ·cases h
 ·cases h
end
end Go.V
