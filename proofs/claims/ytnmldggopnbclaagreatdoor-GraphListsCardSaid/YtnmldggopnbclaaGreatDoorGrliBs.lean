/- A part of the proof: plain forms of functions and laws about them. -/
import Derived.Test.YtnmldggopnbclaaGreatDoorGrliBr
namespace Go.V
open Go.RowKit (Below)
structure FnE where
 code : Code
 ann : Ann
 n : Nat
 rv : List ResultVar
def resE (T : Tab) (e : Env) (m : AMem) : List ResultVar → Option (List Value)
 | [] => some []
 | .tmp t :: r => match get e t, resE T e m r with | some u, some us => some (u :: us) | _, _ => none
 | .cell a t :: r => match get e a, T.t t, resE T e m r with
  | some (.pointer (some p)), some i, some us => (match ldE i.sh m p with | some u => some (u :: us) | none => none)
  | _, _, _ => none
def runD (callE : FuncId → List Value → AMem → Option (Value × AMem)) : DfL → AMem → Option AMem
 | [], m => some m
 | (g, us) :: l, m => match callE g us m with | some (_, m1) => runD callE l m1 | none => none
def endE (T : Tab) (rv : List ResultVar) (nd : Bool) (callD : FuncId → List Value → AMem → Option (Value × AMem)) (e : Env) (m : AMem) (ds : DfL) : Option (Value × AMem) :=
 match nd && !ds.isEmpty with
 | true => none
 | false => match runD callD ds m with
  | some m1 => (match resE T e m1 rv with | some vs => some (tupled vs, m1) | none => none)
  | none => none
def known {α : Type} (o x : Option α) : Option α :=
 match o with
 | some r => some r
 | none => x
def callN (P : Program) (T : Tab) (fns : List (Nat × FnE)) (kn : Bool → FuncId → List Value → AMem → Option (Value × AMem)) (fuel : Nat) : Nat → Bool → FuncId → List Value → AMem → Option (Value × AMem)
 | 0, _, _, _, _ => none
 | f + 1, nd, g, us, m => known (kn nd g us m) (match look fns g with
  | none => none
  | some F => match Nat.ble us.length F.n with
   | false => none
   | true => match codeE P T (callN P T fns kn fuel f false) fuel F.code F.ann (argE 0 us) m [] with
    | some (.normal, e, m', ds) => endE T F.rv nd (callN P T fns kn fuel f true) e m' ds
    | some (.ret, e, m', ds) => endE T F.rv nd (callN P T fns kn fuel f true) e m' ds
    | _ => none)
def CallOkR (P : Program) (w0 : World) (callE : FuncId → List Value → AMem → Option (Value × AMem)) : Prop :=
 ∀ f us m u m', callE f us m = some (u, m') → Enters P f ∧ ∀ ρ vs w, LR ρ us vs → Mem w0 ρ m w → CallsD P f vs.toArray .returning w fun en um' w' => um' = .returning ∧ ∃ ρ' v, Ev w0 ρ m w ρ' m' w' ∧ VR ρ' u v ∧ en = .returned v
def FnsOk (P : Program) (fns : List (Nat × FnE)) : Prop := ∀ g F, look fns g = some F → ∃ fn, P.funcs[g]? = some fn ∧ fn.body = some F.code ∧ fn.ntmps = F.n ∧ fn.results.toList = F.rv ∧ codeIn F.n F.code = true ∧ Enters P g
section
variable {ρ : Rn} {m m' : AMem} {w w' w0 : World}
theorem argE_ER {us : List Value} : ∀ {vs : List Value} {i : Nat}, LR ρ us vs → ER ρ (argE i us) (argE i vs) := by
 induction us with
 | nil => intro vs i h t u hu; cases hu
 | cons u us ih =>
  intro vs i h
  obtain ⟨v, vs', rfl, r1, r2⟩ := h.inv_cons
  exact ER.set (ih r2) (some i) r1
theorem resE_ok {T : Tab} {e e' : Env} (he : ER ρ e e') (hm : MemC ρ m w) : ∀ {rv : List ResultVar} {us : List Value}, resE T e m rv = some us → ∀ {F : List Value → Prop}, (∀ vs, LR ρ us vs → F vs) → resV T e' w rv F := by
 intro rv
 induction rv with
 | nil => intro us h F k; cases h; exact k _ .nil
 | cons x rv ih =>
  intro us h F k
  cases x with
  | tmp t =>
   unfold resE at h
   split at h
   ·rename_i u us1 h1 h2
    cases h
    obtain ⟨v, hv, r⟩ := he t u h1
    show ofV (get e' t) _
    rw [hv]
    exact ih h2 fun vs rs => k _ (LR.cons r rs)
   ·cases h
  | cell a t =>
   unfold resE at h
   split at h
   ·rename_i p i us1 h1 h2 h3
    split at h
    ·rename_i u h4
     cases h
     obtain ⟨v, hv, r⟩ := he a _ h1
     cases r
     show ofV (get e' a) _
     rw [hv]
     show (match T.t t with | some i => ldSh i.sh w (ρ.a p) _ | none => False)
     rw [h2]
     exact ldE_ok hm h4 fun v r => ih h3 fun vs rs => k _ (LR.cons r rs)
    ·cases h
   ·cases h
theorem tupledR {us vs : List Value} (h : LR ρ us vs) : VR ρ (tupled us) (tupled vs) := by
 have hl := h.len
 match us, vs, h with
 | [], [], h => exact VR.tupleL h
 | [u], [v], h => exact h.at_ 0 u v rfl rfl
 | u :: u2 :: us, v :: v2 :: vs, h => exact VR.tupleL h
theorem runD_ok {P : Program} {callD : FuncId → List Value → AMem → Option (Value × AMem)} (hc : CallOkR P w0 callD) {fn : Func} {tmps : Array Value} {R : Ending → World → Prop} : ∀ {ds : DfL} {dl : List Deferred} {ρ : Rn} {m : AMem} {w : World}, runD callD ds m = some m' → DR ρ ds dl → Mem w0 ρ m w →
  (∀ ρ' w', Ev w0 ρ m w ρ' m' w' → _root_.Go.Leaves P fn tmps R [] .returning w') → _root_.Go.Leaves P fn tmps R dl .returning w := by
 intro ds
 induction ds with
 | nil => intro dl ρ m w h hd hm k; cases h; cases hd; exact k ρ w (Ev.refl hm)
 | cons d ds ih =>
  intro dl ρ m w h hd hm k
  cases hd with
  | @cons g us vs cap _ r rl hr =>
  unfold runD at h
  split at h
  ·rename_i u m1 h1
   obtain ⟨hen, hcd⟩ := hc g us m u m1 h1
   refine ⟨by simp, .func g, cap, g, vs ++ cap, rfl, ?_, ?_⟩
   ·exact hen (vs ++ cap) w
   ·refine CallsD.mono (hcd ρ _ w rl hm) ?_
    rintro en um' w' ⟨rfl, ρ', v, ev, rv, rfl⟩
    show _root_.Go.Leaves P fn tmps R r (settle .returning) w'
    exact ih h (hr.mono ev.le) ev.mem fun ρ2 w2 e2 => k ρ2 w2 (Ev.trans hm ev e2)
  ·cases h
theorem callN_ok {P : Program} {T : Tab} (hT : T.Ok P) (hmx : P.follows .mixedOrders = true) {fns : List (Nat × FnE)} (hF : FnsOk P fns) {kn : Bool → FuncId → List Value → AMem → Option (Value × AMem)} (hk : CallOk P w0 (kn false)) (hkd : CallOkR P w0 (kn true)) (fuel : Nat) : ∀ f, CallOk P w0 (callN P T fns kn fuel f false) ∧ CallOkR P w0 (callN P T fns kn fuel f true) := by
 intro f
 induction f with
 | zero => exact ⟨fun g us m u m' h => (by cases h), fun g us m u m' h => (by cases h)⟩
 | succ f ih =>
  have main : ∀ nd g us m u m', kn nd g us m = none → callN P T fns kn fuel (f + 1) nd g us m = some (u, m') → Enters P g ∧ ∀ ρ vs w, LR ρ us vs → Mem w0 ρ m w → ∃ fn c, P.funcs[g]? = some fn ∧ fn.body = some c ∧
    c.wp P (fun x a' w' => (x = .normal ∨ x = .ret) ∧ (nd = true → a'.defers = []) ∧ _root_.Go.Leaves P fn a'.tmps (fun en w' => ∃ ρ' v, Ev w0 ρ m w ρ' m' w' ∧ VR ρ' u v ∧ en = .returned v) a'.defers .returning w') { tmps := vs.toArray ++ Array.replicate (fn.ntmps - vs.toArray.size) undef, defers := [] } w := by
   intro nd g us m u m' hor h
   unfold callN at h
   rw [hor] at h
   change (match look fns g with | none => none | some F => _) = _ at h
   split at h
   ·cases h
   rename_i F hg
   split at h
   ·cases h
   rename_i hle
   have hle := Nat.le_of_ble_eq_true hle
   obtain ⟨fn, hf, hb, hn, hrv, hin, hent⟩ := hF g F hg
   refine ⟨hent, fun ρ vs w r hm => ⟨fn, F.code, hf, hb, ?_⟩⟩
   have hlen : vs.length ≤ fn.ntmps := by rw [← r.len, hn]; exact hle
   have hA : Ag fn.ntmps { tmps := vs.toArray ++ Array.replicate (fn.ntmps - vs.toArray.size) undef, defers := [] } (argE 0 vs) := by
    refine ⟨by simp; omega, fun t v ht => ?_⟩
    obtain ⟨_, h2⟩ := argE_get vs 0 t v ht
    simp only [Nat.sub_zero] at h2
    have hlt : t < vs.length := (List.getElem?_eq_some_iff.1 h2).1
    rw [Array.getD_eq_getD_getElem?, Array.getElem?_append_left (by simpa using hlt)]
    simp [h2]
   have fin : ∀ {x : Exit} {e2 : Env} {m2 : AMem} {ds : DfL} {a' : Act} {w' : World} {z : Exit}, (x = .normal ∨ x = .ret) → endE T F.rv nd (callN P T fns kn fuel f true) e2 m2 ds = some (u, m') → After fn.ntmps w0 ρ m w x e2 m2 ds z a' w' →
     (z = .normal ∨ z = .ret) ∧ (nd = true → a'.defers = []) ∧ _root_.Go.Leaves P fn a'.tmps (fun en w' => ∃ ρ' v, Ev w0 ρ m w ρ' m' w' ∧ VR ρ' u v ∧ en = .returned v) a'.defers .returning w' := by
    intro x e2 m2 ds a' w' z hx hr hz
    obtain ⟨rfl, ρ', e2', hA', hv, he, hd⟩ := hz
    unfold endE at hr
    split at hr
    ·cases hr
    rename_i hnd
    split at hr
    ·rename_i m3 h3
     split at hr
     ·rename_i us2 h2
      cases hr
      refine ⟨hx, fun hn2 => ?_, runD_ok ih.2 h3 hd hv.mem fun ρ2 w2 ev2 => ?_⟩
      ·rw [hn2] at hnd
       simp only [Bool.true_and, Bool.not_eq_false'] at hnd
       have : ds = [] := by simpa using hnd
       subst this
       cases hd' : a'.defers with
       | nil => rfl
       | cons a l => rw [hd'] at hd; cases hd
      ·have hres : resV T e2' w2 fn.results.toList (fun vs => LR ρ2 us2 vs) := by
        rw [hrv]; exact resE_ok (he.mono ev2.le) ev2.mem.c h2 fun vs rs => rs
       obtain ⟨vs2, hK, hrun⟩ := resV_run hT hA' hres
       refine ⟨tupled vs2, ?_, ρ2, tupled vs2, Ev.trans hm hv ev2, tupledR hK, rfl⟩
       unfold results
       have hrun' : (fn.results.mapM (rvS a')).run P w2 = .ok vs2.toArray w2 := by
        rw [Array.mapM_eq_mapM_toList, Sem.run_map, hrun]; rfl
       show ((fn.results.mapM (rvS a') >>= fun vs => (pure (if h : vs.size = 1 then vs[0] else .tuple vs) : Sem Value))).run P w2 = _
       rw [Sem.run_bind, hrun']
       simp only [Result.andThen_ok, Sem.run_pure]
       congr 1
       match vs2 with
       | [] => rfl
       | [v] => rfl
       | _ :: _ :: _ => rfl
     ·cases hr
    ·cases hr
   split at h
   ·rename_i e m2 ds hce
    exact wp_mono (codeE_ok hT hmx ih.1 (N := fn.ntmps) fuel F.code F.ann hce (by rw [hn]; exact hin) hA (argE_ER r) hm .nil) fun z a' w' hz => fin (.inl rfl) h hz
   ·rename_i e m2 ds hce
    exact wp_mono (codeE_ok hT hmx ih.1 (N := fn.ntmps) fuel F.code F.ann hce (by rw [hn]; exact hin) hA (argE_ER r) hm .nil) fun z a' w' hz => fin (.inr rfl) h hz
   ·cases h
  refine ⟨fun g us m u m' h => ?_, fun g us m u m' h => ?_⟩
  ·cases hr : kn false g us m with
   | some r =>
    have : callN P T fns kn fuel (f + 1) false g us m = some r := by unfold callN; rw [hr]; rfl
    rw [this] at h; cases h
    exact hk g us m u m' hr
   | none =>
    obtain ⟨hent, hw⟩ := main false g us m u m' hr h
    refine ⟨hent, fun ρ vs w r hm => ?_⟩
    obtain ⟨fn, c, hf, hb, hwp⟩ := hw ρ vs w r hm
    refine calls_of_wp_defers hf hb (wp_mono hwp fun x a' w' hx => ?_)
    obtain ⟨hx, _, hl⟩ := hx
    rcases hx with rfl | rfl <;> exact hl
  ·cases hr : kn true g us m with
   | some r =>
    have : callN P T fns kn fuel (f + 1) true g us m = some r := by unfold callN; rw [hr]; rfl
    rw [this] at h; cases h
    exact hkd g us m u m' hr
   | none =>
    obtain ⟨hent, hw⟩ := main true g us m u m' hr h
    refine ⟨hent, fun ρ vs w r hm => ?_⟩
    obtain ⟨fn, c, hf, hb, hwp⟩ := hw ρ vs w r hm
    refine callsD_of_wp hf hb (wp_mono hwp fun x a' w' hx => ?_)
    obtain ⟨hx, hd, hl⟩ := hx
    have hd := hd rfl
    rw [hd] at hl
    rcases hx with rfl | rfl <;> exact ⟨hd, hl⟩
end
def FnAll (P : Program) : List (Nat × FnE) → Prop
 | [] => True
 | (g, F) :: r => (∃ fn, P.funcs[g]? = some fn ∧ fn.body = some F.code ∧ fn.ntmps = F.n ∧ fn.results.toList = F.rv ∧ codeIn F.n F.code = true ∧ Enters P g) ∧ FnAll P r
theorem FnAll.ok {P : Program} : ∀ {fns : List (Nat × FnE)}, FnAll P fns → FnsOk P fns
 | [], _, g, F, h => by cases h
 | (k, G) :: r, h, g, F, hg => by
  unfold look at hg
  cases hb : Nat.beq k g with
  | true =>
   rw [hb, cond_true] at hg
   cases hg
   have := Nat.eq_of_beq_eq_true hb
   subst this
   exact h.1
  | false => rw [hb, cond_false] at hg; exact FnAll.ok h.2 g F hg
end Go.V
