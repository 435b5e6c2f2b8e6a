/- A part of the proof: plain forms of functions and laws about them. -/
import Derived.Test.YtnmldggopnbclaaGreatDoorGrliAv
namespace Go.V
open Go.RowKit (Below)
section
variable {ρ ρ' : Rn} {m m' : AMem} {w w' w0 : World}
def areCells : List Cell → List Value → Bool
 | [], [] => true
 | c :: cs, u :: us => isCell c u && areCells cs us
 | _, _ => false
theorem areCells_ex {cs : List Cell} : ∀ {us vs : List Value}, areCells cs us = true → LR ρ us vs → ∀ {F : List Value → Prop}, F vs → ExCs cs F := by
 induction cs with
 | nil => intro us vs h r F k; cases us with
  | nil => rw [r.inv_nil] at k; exact k
  | cons => cases h
 | cons c cs ih =>
  intro us vs h r F k
  cases us with
  | nil => cases h
  | cons u us =>
   obtain ⟨v, vs', rfl, r1, r2⟩ := r.inv_cons
   simp only [areCells, Bool.and_eq_true] at h
   exact isCell_ex h.1 r1 (F := fun v => ExCs cs fun vs => F (v :: vs)) (ih h.2 r2 (F := fun vs => F (v :: vs)) k)
def isSh : Sh → Value → Bool
 | .one c, u => isCell c u
 | .agg cs, .agg us => areCells cs us.toList
 | .row _, .agg _ => true
 | _, _ => false
theorem isSh_ex {s : Sh} {u v : Value} (h : isSh s u = true) (r : VR ρ u v) {F : Value → Prop} (k : F v) : ExSh s F := by
 cases s with
 | one c => exact isCell_ex h r k
 | agg cs =>
  cases u <;> first | (cases h; done) | skip
  obtain ⟨ys, rfl, ra⟩ := r.agg_inv
  exact areCells_ex (us := _) h ra (F := fun vs => F (.agg vs.toArray)) (by simpa using k)
 | row n =>
  cases u <;> first | (cases h; done) | skip
  obtain ⟨ys, rfl, ra⟩ := r.agg_inv
  exact ⟨ys, k⟩
def areSh : List Sh → List Value → Bool
 | [], [] => true
 | s :: ss, u :: us => isSh s u && areSh ss us
 | _, _ => false
theorem areSh_ex {ss : List Sh} : ∀ {us vs : List Value}, areSh ss us = true → LR ρ us vs → ∀ {F : List Value → Prop}, F vs → ExShs ss F := by
 induction ss with
 | nil => intro us vs h r F k; cases us with
  | nil => rw [r.inv_nil] at k; exact k
  | cons => cases h
 | cons s ss ih =>
  intro us vs h r F k
  cases us with
  | nil => cases h
  | cons u us =>
   obtain ⟨v, vs', rfl, r1, r2⟩ := r.inv_cons
   simp only [areSh, Bool.and_eq_true] at h
   exact isSh_ex h.1 r1 (F := fun v => ExShs ss fun vs => F (v :: vs)) (ih h.2 r2 (F := fun vs => F (v :: vs)) k)
def isR : List Sh → Value → Bool
 | [s], u => isSh s u
 | [], .tuple us => us.isEmpty
 | s :: s2 :: ss, .tuple us => areSh (s :: s2 :: ss) us.toList
 | _, _ => false
theorem isR_ex {rs : List Sh} {u v : Value} (h : isR rs u = true) (r : VR ρ u v) {F : Value → Prop} (k : F v) : ExR rs F := by
 match rs, h with
 | [], h =>
  cases u <;> first | (cases h; done) | skip
  obtain ⟨ys, rfl, ra⟩ := r.tuple_inv
  simp only [isR, Array.isEmpty_iff] at h
  subst h
  have : ys = #[] := by apply Array.ext'; exact ra.inv_nil
  subst this
  exact k
 | [s], h => exact isSh_ex h r k
 | s :: s2 :: ss, h =>
  cases u <;> first | (cases h; done) | skip
  obtain ⟨ys, rfl, ra⟩ := r.tuple_inv
  exact areSh_ex (ss := s :: s2 :: ss) h ra (F := fun vs => F (.tuple vs.toArray)) (by simpa using k)
/-! ### Stores -/
theorem oneR {u v : Value} (r : VR ρ u v) (h : u.oneCell' = true) : v.oneCell' = true := by
 cases r <;> first | rfl | (cases h; done)
theorem onesR {us : List Value} : ∀ {vs : List Value}, LR ρ us vs → oneCells us = true → oneCells vs = true := by
 induction us with
 | nil => intro vs r _; rw [r.inv_nil]; rfl
 | cons u us ih =>
  intro vs r h
  obtain ⟨v, vs', rfl, r1, r2⟩ := r.inv_cons
  simp only [oneCells, Bool.and_eq_true] at h ⊢
  exact ⟨oneR r1 h.1, ih r2 h.2⟩
def setsE : List Value → AMem → Addr → Nat → Option AMem
 | [], m, _, _ => some m
 | u :: us, m, p, i => match setE m (p.add i) u with | some m' => setsE us m' p (i + 1) | none => none
theorem setsE_ok {us : List Value} : ∀ {vs : List Value} {m : AMem} {w : World} {p : Addr} {i : Nat}, setsE us m p i = some m' → LR ρ us vs → Mem w0 ρ m w → ∀ {F : World → Prop}, (∀ w', Ev w0 ρ m w ρ m' w' → F w') → StCs vs w (ρ.a p) i F := by
 induction us with
 | nil => intro vs m w p i h r hm F k; cases h; rw [r.inv_nil]; exact k w (Ev.refl hm)
 | cons u us ih =>
  intro vs m w p i h r hm F k
  obtain ⟨v, vs', rfl, r1, r2⟩ := r.inv_cons
  unfold setsE at h
  split at h
  ·rename_i m1 h1
   show SetK w ((ρ.a p).add i) v _
   rw [Rn.a_add]
   exact hm.set h1 r1 fun w1 v1 => ih h r2 v1.mem fun w2 v2 => k w2 (Ev.trans hm v1 v2)
  ·cases h
def stE (s : Sh) (u : Value) (m : AMem) (p : Addr) : Option AMem :=
 match s with
 | .one _ => match u.oneCell' with | true => setE m p u | false => none
 | .agg cs => match u with | .agg us => (match Nat.beq us.toList.length cs.length && oneCells us.toList with | true => setsE us.toList m p 0 | false => none) | _ => none
 | .row _ => none
theorem stE_ok {s : Sh} {u v : Value} {p : Addr} (h : stE s u m p = some m') (r : VR ρ u v) (hm : Mem w0 ρ m w) {F : World → Prop} (k : ∀ w', Ev w0 ρ m w ρ m' w' → F w') : stSh s v w (ρ.a p) F := by
 unfold stE at h
 split at h
 ·split at h
  ·rename_i h1
   show st1 v w (ρ.a p) F
   unfold st1
   rw [oneR r h1]
   exact hm.set h r k
  ·cases h
 ·rename_i cs
  split at h
  ·rename_i us
   split at h
   ·rename_i hc
    obtain ⟨ys, rfl, ra⟩ := r.agg_inv
    simp only [Bool.and_eq_true] at hc
    show (match Nat.beq ys.toList.length cs.length && oneCells ys.toList with | true => StCs ys.toList w (ρ.a p) 0 F | false => False)
    rw [← ra.len, hc.1, onesR ra hc.2]
    exact setsE_ok h ra hm k
   ·cases h
  ·cases h
 ·cases h
def stoE (T : Tab) (t : Nat) (p u : Value) (m : AMem) : Option AMem :=
 match p, T.t t with | .pointer (some p), some i => stE i.sh u m p | _, _ => none
theorem stoE_ok {T : Tab} {t : Nat} {p u p' v : Value} (h : stoE T t p u m = some m') (rp : VR ρ p p') (r : VR ρ u v) (hm : Mem w0 ρ m w) {F : World → Prop} (k : ∀ w', Ev w0 ρ m w ρ m' w' → F w') : ptrOf p' fun p => stK T t p v w F := by
 unfold stoE at h
 split at h
 ·rename_i q i hi
  cases rp
  show stK T t (ρ.a q) v w F
  unfold stK
  rw [hi]
  exact stE_ok h r hm k
 ·cases h
end
end Go.V
