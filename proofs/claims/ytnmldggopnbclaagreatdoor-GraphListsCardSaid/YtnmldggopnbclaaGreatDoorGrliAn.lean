/- A part of the proof: plain forms of functions and laws about them. -/
import Derived.Test.YtnmldggopnbclaaGreatDoorGrliAm
namespace Go.V
open Go.RowKit (Below)
inductive AObj where
 /-- a prefix of a block's cells, its type; perhaps the symbol of the capacity that the block has from the token on, and an element's cells -/
 | cells (cs : List Value) (t : Nat) (g : Option (Nat × Nat))
 /-- entries, their stamps, the next stamp -/
 | amap (es : List (Value × Value)) (bs : List Nat) (clock : Nat)
 /-- an iterator over a map -/
 | iter (m : Option Nat) (since : Nat) (seen : List Nat) (last : Nat)
 | dead
def AObj.live : AObj → Bool
 | .dead => false
 | _ => true
structure AMem where
 objs : List (Nat × AObj)
 next : Nat
 caps : Nat
 /-- the tokens that have been changed -/
 log : List Nat
def AMem.get (m : AMem) (t : Nat) : Option AObj := look m.objs t
def cellE (m : AMem) (p : Addr) : Option Value :=
 match p.spot with
 | some _ => none
 | none => match m.get p.block with
  | some (.cells cs _ _) => cs[p.off]?
  | _ => none
def MemC (ρ : Rn) (m : AMem) (w : World) : Prop := ∀ t cs ty g, m.get t = some (.cells cs ty g) → ∀ (i : Nat) (u : Value), cs[i]? = some u → ∃ v, w.cell? ⟨ρ.blk t, ρ.off t + i, none⟩ = some v ∧ VR ρ u v
section
variable {ρ : Rn} {m : AMem} {w : World}
theorem cellE_ok (h : MemC ρ m w) {p : Addr} {u : Value} (hu : cellE m p = some u) : ∃ v, w.cell? (ρ.a p) = some v ∧ VR ρ u v := by
 obtain ⟨b, o, s⟩ := p
 unfold cellE at hu
 split at hu
 ·cases hu
 ·rename_i hs
  have hs : s = none := hs
  subst hs
  split at hu
  ·rename_i cs ty g hg; exact h b cs ty g hg o u hu
  ·cases hu
def ldCsE : List Cell → AMem → Addr → Nat → Option (List Value)
 | [], _, _, _ => some []
 | c :: cs, m, p, i => match cellE m (p.add i), ldCsE cs m p (i + 1) with
  | some u, some vs => match isCell c u with | true => some (u :: vs) | false => none
  | _, _ => none
theorem ldCsE_ok (h : MemC ρ m w) {cs : List Cell} {p : Addr} : ∀ {i : Nat} {us : List Value}, ldCsE cs m p i = some us → ∀ {F : List Value → Prop}, (∀ vs, LR ρ us vs → F vs) → LdCs cs w (ρ.a p) i F := by
 induction cs with
 | nil => intro i us hu F k; cases hu; exact k [] .nil
 | cons c cs ih =>
  intro i us hu F k
  unfold ldCsE at hu
  split at hu
  ·rename_i u vs h1 h2
   split at hu
   ·rename_i hc
    cases hu
    obtain ⟨v, hv, r⟩ := cellE_ok h h1
    exact isCell_ex hc r ⟨by rw [Rn.a_add]; exact hv, ih h2 fun vs' r' => k _ (LR.cons r r')⟩
   ·cases hu
  ·cases hu
def rowE (m : AMem) (p : Addr) (i : Nat) : Nat → Option (List Value)
 | 0 => some []
 | n + 1 => match cellE m (p.add i), rowE m p (i + 1) n with
  | some u, some vs => some (u :: vs)
  | _, _ => none
theorem rowE_ok (h : MemC ρ m w) {p : Addr} : ∀ {n i : Nat} {us : List Value}, rowE m p i n = some us → ∃ vs, LR ρ us vs ∧ vs.length = n ∧ ∀ j, j < n → w.cell? ((ρ.a p).add (i + j)) = vs[j]? := by
 intro n
 induction n with
 | zero => intro i us hu; cases hu; exact ⟨[], .nil, rfl, fun j hj => by omega⟩
 | succ n ih =>
  intro i us hu
  unfold rowE at hu
  split at hu
  ·rename_i u vs h1 h2
   cases hu
   obtain ⟨v, hv, r⟩ := cellE_ok h h1
   obtain ⟨vs', r', hl, hj⟩ := ih h2
   refine ⟨v :: vs', LR.cons r r', by simp [hl], fun j hjn => ?_⟩
   cases j with
   | zero => rw [Nat.add_zero, Rn.a_add]; exact hv
   | succ j =>
    have := hj j (by omega)
    rw [List.getElem?_cons_succ, ← this]
    congr 2; omega
  ·cases hu
def ldE (s : Sh) (m : AMem) (p : Addr) : Option Value :=
 match s with
 | .one c => match cellE m p with | some u => (match isCell c u with | true => some u | false => none) | none => none
 | .agg cs => match ldCsE cs m p 0 with | some vs => some (.agg vs.toArray) | none => none
 | .row n => match rowE m p 0 n with | some vs => some (.agg vs.toArray) | none => none
theorem ldE_ok (h : MemC ρ m w) {s : Sh} {p : Addr} {u : Value} (hu : ldE s m p = some u) {F : Value → Prop} (k : ∀ v, VR ρ u v → F v) : ldSh s w (ρ.a p) F := by
 unfold ldE at hu
 split at hu
 ·split at hu
  ·rename_i u0 h1
   split at hu
   ·rename_i hc
    cases hu
    obtain ⟨v, hv, r⟩ := cellE_ok h h1
    exact isCell_ex hc r ⟨hv, k v r⟩
   ·cases hu
  ·cases hu
 ·split at hu
  ·rename_i vs h1; cases hu; exact ldCsE_ok h h1 fun vs' r => k _ (.aggL r)
  ·cases hu
 ·split at hu
  ·rename_i n vs h1
   cases hu
   obtain ⟨vs', r, hl, hj⟩ := rowE_ok h h1
   exact ⟨vs'.toArray, ⟨by simpa using hl, fun i hi => by have := hj i hi; rw [Nat.zero_add] at this; simpa using this⟩, k _ (.aggL r)⟩
  ·cases hu
/-! ### Parts -/
def fieldE (T : Tab) (s f : Nat) (x : Value) : Option Value :=
 match T.t s with
 | some inf => match inf.places[f]? with
  | some (o, n, true) => match x with | .agg cs => some (.agg (cs.extract o (o + n))) | _ => none
  | some (o, _, false) => match x with | .agg cs => cs[o]? | _ => none
  | none => none
 | none => none
theorem fieldE_ok {T : Tab} {s f : Nat} {x x' u : Value} (h : fieldE T s f x = some u) (r : VR ρ x x') {F : Value → Prop} (k : ∀ v, VR ρ u v → F v) : fieldK T s f x' F := by
 unfold fieldE at h
 split at h
 ·rename_i inf hi
  split at h
  ·rename_i o n hp
   split at h
   ·rename_i cs
    obtain ⟨ys, rfl, ra⟩ := r.agg_inv
    unfold fieldK
    rw [hi]; simp only; rw [hp]; simp only
    cases h
    show F (.agg (ys.extract o (o + n)))
    refine k _ (.agg _ _ ?_ fun i u v h1 h2 => ?_)
    ·have := ra.len; simp at this ⊢; omega
    ·rw [Array.getElem?_extract] at h1 h2
     split at h1
     ·rename_i hc
      split at h2
      ·exact ra.at_ (o + i) u v (by simpa using h1) (by simpa using h2)
      ·cases h2
     ·cases h1
   ·cases h
  ·rename_i o n hp
   split at h
   ·rename_i cs
    obtain ⟨ys, rfl, ra⟩ := r.agg_inv
    unfold fieldK
    rw [hi]; simp only; rw [hp]; simp only
    obtain ⟨v, hv, rv⟩ := ra.get (i := o) (u := u) (by simpa using h)
    show ofV ys[o]? F
    have : ys[o]? = some v := by simpa using hv
    rw [this]; exact k v rv
   ·cases h
  ·cases h
 ·cases h
def strIdxE (T : Tab) (t : Nat) (x i : Value) : Option Value :=
 match T.t t with
 | some inf => match inf.sh, x, i with
  | .one .str, .string s, .int _ n => if 0 ≤ n then (match s[n.toNat]? with | some b => some (.int .u8 b.toNat) | none => none) else none
  | _, _, _ => none
 | none => none
theorem strIdxE_ok {T : Tab} {t : Nat} {x i x' i' u : Value} (h : strIdxE T t x i = some u) (rx : VR ρ x x') (ri : VR ρ i i') {F : Value → Prop} (k : ∀ v, VR ρ u v → F v) : strIdxK T t x' i' F := by
 unfold strIdxE at h
 split at h
 ·rename_i inf hi
  split at h
  ·rename_i s kk n hs
   cases rx; cases ri
   unfold strIdxK
   rw [hi]; simp only; rw [hs]; simp only
   split at h
   ·rename_i h0
    split at h
    ·rename_i b hb; cases h; exact ⟨b, ⟨h0, hb⟩, k _ (.int _ _)⟩
    ·cases h
   ·cases h
  ·cases h
 ·cases h
def bndE (o : Option Value) (d : Nat) : Option Nat :=
 match o with
 | none => some d
 | some (.int _ n) => if 0 ≤ n then some n.toNat else none
 | some _ => none
def OR (ρ : Rn) : Option Value → Option Value → Prop
 | none, none => True
 | some u, some v => VR ρ u v
 | _, _ => False
theorem bndE_ok {o o' : Option Value} {d l : Nat} (h : bndE o d = some l) (r : OR ρ o o') {F : Nat → Prop} (k : F l) : bndK o' d F := by
 unfold bndE at h
 split at h
 ·cases o' with
  | none => cases h; exact k
  | some v => exact r.elim
 ·rename_i kk n
  cases o' with
  | none => exact r.elim
  | some v =>
   cases r
   split at h
   ·cases h; exact ⟨‹_›, k⟩
   ·cases h
 ·cases h
def lenE (T : Tab) (t : Nat) (v : Value) : Option Value :=
 match T.t t with
 | some i => match i.sh, v with
  | .one .str, .string s => some (.int .i64 (s.size : Nat))
  | .one .slice, .slice _ n _ => some (.int .i64 (n : Nat))
  | _, _ => none
 | none => none
theorem lenE_ok {T : Tab} {t : Nat} {x x' u : Value} (h : lenE T t x = some u) (r : VR ρ x x') {F : Value → Prop} (k : ∀ v, VR ρ u v → F v) : lenK T t x' F := by
 unfold lenE at h
 split at h
 ·rename_i inf hi
  unfold lenK
  rw [hi]; simp only
  split at h
  ·rename_i hs; cases r; rw [hs]; cases h; exact k _ (.int _ _)
  ·rename_i hs
   cases r
   ·rw [hs]; cases h; exact k _ (.int _ _)
   ·rw [hs]; cases h; exact k _ (.int _ _)
   ·rw [hs]; cases h; exact k _ (.int _ _)
  ·cases h
 ·cases h
def capE (T : Tab) (t : Nat) (v : Value) : Option Value :=
 match T.t t with
 | some i => match i.sh, v with
  | .one .slice, .slice none _ c => match Nat.blt c symB with | true => some (.int .i64 (c : Nat)) | false => none
  | .one .slice, .slice (some ⟨_, _, none⟩) _ c => match Nat.blt c symB with | true => some (.int .i64 (c : Nat)) | false => none
  | _, _ => none
 | none => none
theorem capE_ok {T : Tab} {t : Nat} {x x' u : Value} (h : capE T t x = some u) (r : VR ρ x x') {F : Value → Prop} (k : ∀ v, VR ρ u v → F v) : capK T t x' F := by
 unfold capE at h
 split at h
 ·rename_i inf hi
  unfold capK
  rw [hi]; simp only
  split at h
  ·rename_i hs
   cases r
   split at h
   ·rename_i hc; rw [hs]; cases h; simp only [ρ.c_lit hc]; exact k _ (.int _ _)
   ·cases h
  ·rename_i hs
   cases r
   split at h
   ·rename_i hc; rw [hs]; cases h; simp only [ρ.c_lit hc]; exact k _ (.int _ _)
   ·cases h
  ·cases h
 ·cases h
end
end Go.V
