/- A part of the proof: plain forms of functions and laws about them. -/
import Derived.Test.YtnmldggopnbclaaGreatDoorGrliBo
namespace Go.V
open Go.RowKit (Below)
section
variable {ρ ρ' : Rn} {m m' m0 : AMem} {w w' w0 w1 : World} {L : List Nat}
def AMem.cut (m : AMem) (L : List Nat) : AMem := { m with objs := m.objs.filter fun x => !memB x.1 L }
theorem look_cut {l : List (Nat × AObj)} {t : Nat} {o : AObj} (h : look (l.filter fun x => !memB x.1 L) t = some o) : look l t = some o ∧ t ∉ L := by
 induction l with
 | nil => cases h
 | cons x r ih =>
  obtain ⟨k, v⟩ := x
  rw [List.filter_cons] at h
  cases hb : Nat.beq k t with
  | true =>
   have := Nat.eq_of_beq_eq_true hb
   subst this
   split at h
   ·rename_i hc
    simp only [look, hb, cond_true] at h ⊢
    refine ⟨h, fun hm => ?_⟩
    have : memB k L = true := by
     clear ih h hb
     induction L with
     | nil => cases hm
     | cons a L ih2 =>
      unfold memB
      rcases List.mem_cons.1 hm with e | e
      ·subst e; rw [Nat.beq_refl]; rfl
      ·rw [ih2 (by simp only [memB, Bool.not_eq_true', Bool.or_eq_false_iff] at hc; simp [hc.2]) e, Bool.or_true]
    simp only [Bool.not_eq_true'] at hc
    rw [hc] at this; cases this
   ·obtain ⟨h1, h2⟩ := ih h
    rename_i hc
    simp only [Bool.not_eq_true', Bool.not_eq_false] at hc
    exact absurd (memB_mem hc) h2
  | false =>
   simp only [look, hb, cond_false]
   split at h
   ·simp only [look, hb, cond_false] at h; exact ih h
   ·exact ih h
noncomputable def stayK (ρ : Rn) (m0 : AMem) (L : List Nat) : Ka Unit := fun b => open Classical in if ∃ t, t < m0.next ∧ t ∉ L ∧ (∃ o, m0.get t = some o ∧ o.live = true) ∧ ρ.blk t = b then some ((), 0, 0) else none
noncomputable def stayW (ρ : Rn) (m0 : AMem) (L : List Nat) (w : World) : World := subK (stayK ρ m0 L) (fun _ => true) w
theorem stay_mem {ρ0 : Rn} (hm : Mem w0 ρ0 m0 w1) (l : Rn.Le ρ0 ρ) : MemC ρ (m0.cut L) (stayW ρ0 m0 L w1) := fun t cs ty g hg i u hu => by
 obtain ⟨hg, hL⟩ := look_cut hg
 have hg : m0.get t = some (.cells cs ty g) := hg
 obtain ⟨v, hv, r⟩ := hm.c t cs ty g hg i u hu
 obtain ⟨_, e1, e2⟩ := l.tok t (hm.got t _ hg rfl)
 refine ⟨v, ?_, r.mono l⟩
 rw [e1, e2, ← hv]
 have hk : stayK ρ0 m0 L (ρ0.blk t) = some ((), 0, 0) := by
  unfold stayK; rw [if_pos ⟨t, hm.dom t (hm.got t _ hg rfl), hL, ⟨_, hg, rfl⟩, rfl⟩]
 exact subK_cell hk rfl _
theorem stay_cel {ρ0 : Rn} (h : Ev w0 ρ0 m0 w1 ρ m w) (hL : ∀ l, m.log = l ++ m0.log → ∀ t ∈ l, t ∈ L ∨ m0.next ≤ t) : Cel (stayW ρ0 m0 L w1) w := by
 obtain ⟨l, e, k⟩ := h.keep
 refine subK_cel fun b kk n u hk _ _ => ?_
 unfold stayK at hk
 split at hk
 ·rename_i hc
  obtain ⟨t, h1, h2, ⟨o, h3, h4⟩, rfl⟩ := hc
  exact (k t h1 (fun hl => by rcases hL l e t hl with h5 | h5; exact h2 h5; omega) o h3 h4).2
 ·cases hk
def logIn (m0 m : AMem) (L : List Nat) : Bool := (m.log.take (m.log.length - m0.log.length)).all fun t => memB t L || Nat.ble m0.next t
theorem logIn_ok (h : logIn m0 m L = true) : ∀ l, m.log = l ++ m0.log → ∀ t ∈ l, t ∈ L ∨ m0.next ≤ t := fun l e t ht => by
 unfold logIn at h
 rw [e, List.length_append, Nat.add_sub_cancel, List.take_left] at h
 have := List.all_eq_true.1 h t ht
 rw [Bool.or_eq_true] at this
 exact this.imp memB_mem Nat.le_of_ble_eq_true
def anyE (P : Program) (T : Tab) (callE : FuncId → List Value → AMem → Option (Value × AMem)) (ops : Array Oper) (m0 : AMem) (L : List Nat) (cl : Nat → Bool) : Plan → Env → AMem → Option (Env × AMem)
 | .done, e, m => some (e, m)
 | .take i p, e, m => match ops[i]? with
  | some o => (match guardB ops o.guard e with
   | some (true, e1) => (match pureE T o.op e1 (m0.cut L) with | some u => anyE P T callE ops m0 L cl p (setD e1 o.dst u) m | none => none)
   | some (false, e1) => anyE P T callE ops m0 L cl p (setD e1 o.dst undef) m
   | none => none)
  | none => none
 | .one i p, e, m => match ops[i]? with
  | some o => (match guardB ops o.guard e with
   | some (true, e1) => (match opE P T callE o e1 m with
    | some (u, m1) => (match cl i || logIn m0 m1 L with | true => anyE P T callE ops m0 L cl p (setD e1 o.dst u) m1 | false => none)
    | none => none)
   | some (false, e1) => anyE P T callE ops m0 L cl p (setD e1 o.dst undef) m
   | none => none)
  | none => none
 | .both i p q, e, m => match (match ops[i]? with
  | some o => (match guardB ops o.guard e with
   | some (true, e1) => (match opE P T callE o e1 m with
    | some (u, m1) => (match cl i || logIn m0 m1 L with | true => anyE P T callE ops m0 L cl p (setD e1 o.dst u) m1 | false => none)
    | none => none)
   | some (false, e1) => anyE P T callE ops m0 L cl p (setD e1 o.dst undef) m
   | none => none)
  | none => none), anyE P T callE ops m0 L cl q e m with
  | some r1, some r2 => joinE m0 r1 r2
  | _, _ => none
theorem anyE_one {P : Program} {T : Tab} (hT : T.Ok P) {callE : FuncId → List Value → AMem → Option (Value × AMem)} (hc : CallOk P w0 callE) {ops : Array Oper} {cl : Nat → Bool} {ρ0 : Rn} (hm0 : Mem w0 ρ0 m0 w1) {i : Nat} {p : Plan}
  (ih : ∀ {ρ : Rn} {m : AMem} {w : World} {e e' e2 : Env}, Ev w0 ρ0 m0 w1 ρ m w → ER ρ e e' → anyE P T callE ops m0 L cl p e m = some (e2, m') → ∀ {K : Env → World → Prop}, (∀ ρ' e2' w', Ev w0 ρ0 m0 w1 ρ' m' w' → ER ρ' e2 e2' → K e2' w') → anyV P T ops (stayW ρ0 m0 L w1) cl (fun w' => Cel (stayW ρ0 m0 L w1) w') p e' K w)
  {e e' e2 : Env} (hv : Ev w0 ρ0 m0 w1 ρ m w) (he : ER ρ e e') (h : (match ops[i]? with
  | some o => (match guardB ops o.guard e with
   | some (true, e1) => (match opE P T callE o e1 m with
    | some (u, m1) => (match cl i || logIn m0 m1 L with | true => anyE P T callE ops m0 L cl p (setD e1 o.dst u) m1 | false => none)
    | none => none)
   | some (false, e1) => anyE P T callE ops m0 L cl p (setD e1 o.dst undef) m
   | none => none)
  | none => none) = some (e2, m')) {K : Env → World → Prop} (k : ∀ ρ' e2' w', Ev w0 ρ0 m0 w1 ρ' m' w' → ER ρ' e2 e2' → K e2' w') :
  (match ops[i]? with
  | some o => guardV ops o.guard e' (fun e => opV P T o e (fun v w' => cndK (cl i) (Cel (stayW ρ0 m0 L w1) w') (anyV P T ops (stayW ρ0 m0 L w1) cl (fun w' => Cel (stayW ρ0 m0 L w1) w') p (setD e o.dst v) K w')) w) (fun e => anyV P T ops (stayW ρ0 m0 L w1) cl (fun w' => Cel (stayW ρ0 m0 L w1) w') p (setD e o.dst undef) K w)
  | none => False) := by
 cases ho : ops[i]? with
 | none => rw [ho] at h; cases h
 | some o =>
  rw [ho] at h
  simp only at h ⊢
  split at h
  ·rename_i e1 hg
   split at h
   ·rename_i u m1 hu
    split at h
    ·rename_i hcl
     refine guardB_ok hg he fun e1' he1 => ⟨fun _ => ?_, fun hx => by cases hx⟩
     refine opE_ok hT hc hu he1 hv.mem fun ρ1 v w2 v1 r1 => ?_
     have hv2 := Ev.trans hm0 hv v1
     have rest := ih hv2 (ER.set (he1.mono v1.le) o.dst r1) h k
     unfold cndK
     cases hci : cl i with
     | true => exact rest
     | false =>
      rw [hci, Bool.false_or] at hcl
      exact ⟨stay_cel hv2 (logIn_ok hcl), rest⟩
    ·cases h
   ·cases h
  ·rename_i e1 hg
   exact guardB_ok hg he fun e1' he1 => ⟨fun hx => (by cases hx), fun _ => ih hv (ER.set he1 o.dst undefR) h k⟩
  ·cases h
theorem anyE_ok {P : Program} {T : Tab} (hT : T.Ok P) {callE : FuncId → List Value → AMem → Option (Value × AMem)} (hc : CallOk P w0 callE) {ops : Array Oper} {cl : Nat → Bool} {ρ0 : Rn} (hm0 : Mem w0 ρ0 m0 w1) : ∀ (p : Plan) {ρ : Rn} {m m' : AMem} {w : World} {e e' e2 : Env}, Ev w0 ρ0 m0 w1 ρ m w → ER ρ e e' →
  anyE P T callE ops m0 L cl p e m = some (e2, m') → ∀ {K : Env → World → Prop}, (∀ ρ' e2' w', Ev w0 ρ0 m0 w1 ρ' m' w' → ER ρ' e2 e2' → K e2' w') → anyV P T ops (stayW ρ0 m0 L w1) cl (fun w' => Cel (stayW ρ0 m0 L w1) w') p e' K w := by
 intro p
 induction p with
 | done => intro ρ m m' w e e' e2 hv he h K k; cases h; exact k ρ e' w hv he
 | take i p ih =>
  intro ρ m m' w e e' e2 hv he h K k
  unfold anyE at h
  unfold anyV
  split at h
  ·rename_i o ho
   rw [ho]; simp only
   split at h
   ·rename_i e1 hg
    split at h
    ·rename_i u hu
     refine guardB_ok hg he fun e1' he1 => ⟨fun _ => ?_, fun hx => by cases hx⟩
     exact pureE_ok hu he1 (stay_mem hm0 hv.le) fun v r => ih hv (ER.set he1 o.dst r) h k
    ·cases h
   ·rename_i e1 hg
    exact guardB_ok hg he fun e1' he1 => ⟨fun hx => (by cases hx), fun _ => ih hv (ER.set he1 o.dst undefR) h k⟩
   ·cases h
  ·cases h
 | one i p ih =>
  intro ρ m m' w e e' e2 hv he h K k
  unfold anyE at h
  unfold anyV
  exact anyE_one hT hc hm0 ih hv he h k
 | both i p q ih1 ih2 =>
  intro ρ m m' w e e' e2 hv he h K k
  unfold anyE at h
  unfold anyV
  split at h
  ·rename_i r1 r2 h1 h2
   unfold joinE at h
   split at h
   ·rename_i hr
    cases h
    obtain ⟨e1, m1⟩ := r1
    obtain ⟨e3, m3⟩ := r2
    refine ⟨anyE_one hT hc hm0 ih1 hv he h1 fun ρ' e2' w' v r => k ρ' e2' w' (gcE_ok hm0 (ren_pi hr) v) r, ?_⟩
    exact ih2 hv he h2 fun ρ' e2' w' v r => by
     obtain ⟨ρ1, v1, r1⟩ := ren_ok hr hm0 v r
     exact k ρ1 e2' w' v1 r1
   ·cases h
  ·cases h
end
end Go.V
