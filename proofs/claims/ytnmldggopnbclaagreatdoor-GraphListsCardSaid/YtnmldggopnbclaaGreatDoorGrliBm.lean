/- A part of the proof: plain forms of functions and laws about them. -/
import Derived.Test.YtnmldggopnbclaaGreatDoorGrliBl
namespace Go.V
open Go.RowKit (Below)
section
variable {ρ ρ' : Rn} {m m' : AMem} {w w' w0 : World}
theorem ER.set {e e' : Env} (h : ER ρ e e') (d : Option Nat) {u v : Value} (r : VR ρ u v) : ER ρ (setD e d u) (setD e' d v) := by
 cases d with
 | none => exact h
 | some t =>
  intro s x hx
  by_cases e1 : t = s
  ·subst e1
   rw [setD, get_cons_same] at hx
   cases hx
   exact ⟨v, by rw [setD, get_cons_same], r⟩
  ·rw [setD, get_cons_ne e1] at hx
   rw [setD, get_cons_ne e1]
   exact h s x hx
def pure2E (T : Tab) (op : Op) (e : Env) (m : AMem) : Option Value :=
 match op with
 | .slice t x lo hi none => match evE e x, optE e lo, optE e hi with | some a, some l, some h => sliceE T t a l h (availE m a) | _, _, _ => none
 | _ => none
theorem pure2E_ok {T : Tab} {op : Op} {e e' : Env} {u : Value} (h : pure2E T op e m = some u) (he : ER ρ e e') (hm : Mem w0 ρ m w) {F : Value → Prop} (k : ∀ v, VR ρ u v → F v) : pureV T op e' w F := by
 unfold pure2E at h
 split at h
 ·rename_i t x lo hi
  split at h
  ·rename_i a l hh h1 h2 h3
   unfold pureV
   exact evE_ofV he h1 fun v r => optE_ok he h2 fun l' rl => optE_ok he h3 fun h' rh => sliceE_ok h (availE_ok hm) r rl rh k
  ·cases h
 ·cases h
def opE (P : Program) (T : Tab) (callE : FuncId → List Value → AMem → Option (Value × AMem)) (o : Oper) (e : Env) (m : AMem) : Option (Value × AMem) :=
 match isPure T o.op with
 | true => match pureE T o.op e m with
  | some u => some (u, m)
  | none => match pure2E T o.op e m with | some u => some (u, m) | none => none
 | false => effE P T callE o e m
theorem opE_ok {P : Program} {T : Tab} (hT : T.Ok P) {callE : FuncId → List Value → AMem → Option (Value × AMem)} (hc : CallOk P w0 callE) {o : Oper} {e e' : Env} {u : Value} (h : opE P T callE o e m = some (u, m')) (he : ER ρ e e') (hm : Mem w0 ρ m w) {K : Value → World → Prop}
  (k : ∀ ρ' v w', Ev w0 ρ m w ρ' m' w' → VR ρ' u v → K v w') : opV P T o e' K w := by
 unfold opE at h
 unfold opV
 split at h
 ·rename_i hp
  rw [hp]; simp only
  split at h
  ·rename_i u1 h1
   cases h
   exact pureE_ok h1 he hm.c fun v r => k ρ v w (Ev.refl hm) r
  ·split at h
   ·rename_i u1 h1
    cases h
    exact pure2E_ok h1 he hm fun v r => k ρ v w (Ev.refl hm) r
   ·cases h
 ·rename_i hp
  rw [hp]; simp only
  exact effE_ok hT hc h he hm k
def guardB (ops : Array Oper) (g : Option (Nat × Bool)) (e : Env) : Option (Bool × Env) :=
 match g with
 | none => some (true, e)
 | some (j, want) => match (ops[j]?).bind (·.dst) with
  | none => none
  | some t => match get e t with
   | some (.bool b) => some (b == want, (t, .bool b) :: e)
   | some (.tuple _) => some (false, e)
   | _ => none
theorem guardB_ok {ops : Array Oper} {g : Option (Nat × Bool)} {e e' e1 : Env} {x : Bool} (h : guardB ops g e = some (x, e1)) (he : ER ρ e e') {X Y : Env → Prop} (k : ∀ e1', ER ρ e1 e1' → (x = true → X e1') ∧ (x = false → Y e1')) : guardV ops g e' X Y := by
 unfold guardB at h
 unfold guardV
 split at h
 ·cases h; exact (k e' he).1 rfl
 ·rename_i j want
  simp only
  split at h
  ·cases h
  ·rename_i t ht
   rw [ht]; simp only
   split at h
   ·rename_i b hb
    obtain ⟨v, hv, r⟩ := he t _ hb
    cases r
    cases h
    rw [hv]; simp only
    have hk := k ((t, .bool b) :: e') (ER.set he (some t) (.bool b))
    cases b <;> cases want <;> first | exact hk.1 rfl | exact hk.2 rfl
   ·rename_i vs hb
    obtain ⟨v, hv, r⟩ := he t _ hb
    obtain ⟨ys, rfl, _⟩ := r.tuple_inv
    cases h
    rw [hv]
    exact (k e' he).2 rfl
   ·cases h
def opsE (P : Program) (T : Tab) (callE : FuncId → List Value → AMem → Option (Value × AMem)) (ops : Array Oper) : List Oper → Env → AMem → Option (Env × AMem)
 | [], e, m => some (e, m)
 | o :: os, e, m => match guardB ops o.guard e with
  | some (true, e1) => (match opE P T callE o e1 m with | some (u, m1) => opsE P T callE ops os (setD e1 o.dst u) m1 | none => none)
  | some (false, e1) => opsE P T callE ops os (setD e1 o.dst undef) m
  | none => none
theorem opsE_ok {P : Program} {T : Tab} (hT : T.Ok P) {callE : FuncId → List Value → AMem → Option (Value × AMem)} (hc : CallOk P w0 callE) {ops : Array Oper} : ∀ (os : List Oper) {ρ : Rn} {m : AMem} {w : World} {e e' e2 : Env}, opsE P T callE ops os e m = some (e2, m') → ER ρ e e' → Mem w0 ρ m w → ∀ {K : Env → World → Prop},
  (∀ ρ' e2' w', Ev w0 ρ m w ρ' m' w' → ER ρ' e2 e2' → K e2' w') → opsV P T ops os e' K w := by
 intro os
 induction os with
 | nil => intro ρ m w e e' e2 h he hm K k; cases h; exact k ρ e' w (Ev.refl hm) he
 | cons o os ih =>
  intro ρ m w e e' e2 h he hm K k
  unfold opsE at h
  split at h
  ·rename_i e1 hg
   split at h
   ·rename_i u m1 ho
    refine guardB_ok hg he fun e1' he1 => ⟨fun _ => ?_, fun hx => by cases hx⟩
    refine opE_ok hT hc ho he1 hm fun ρ1 v w1 v1 r1 => ?_
    exact ih h (ER.set (he1.mono v1.le) o.dst r1) v1.mem fun ρ2 e2' w2 v2 he2 => k ρ2 e2' w2 (Ev.trans hm v1 v2) he2
   ·cases h
  ·rename_i e1 hg
   refine guardB_ok hg he fun e1' he1 => ⟨fun hx => (by cases hx), fun _ => ?_⟩
   exact ih h (ER.set he1 o.dst undefR) hm k
  ·cases h
end
end Go.V
