/- A part of the proof: plain forms of functions and laws about them. -/
import Derived.Test.YtnmldggopnbclaaGreatDoorGrliAf
namespace Go.V
open Go.RowKit (Below)
def zipE : List (Nat × Sh) → List Value → Env → Env
 | (t, _) :: ms, v :: vs, e => (t, v) :: zipE ms vs e
 | _, _, e => e
def restr (e : Env) : List Nat → Env
 | [] => []
 | t :: ts => match get e t with | some v => (t, v) :: restr e ts | none => restr e ts
def getAll (e : Env) : List (Nat × Sh) → (List Value → Prop) → Prop
 | [], F => F []
 | (t, _) :: ms, F => ofV (get e t) fun v => getAll e ms fun vs => F (v :: vs)
def shs (ms : List (Nat × Sh)) : List Sh := match ms with | [] => [] | (_, s) :: r => s :: shs r
def opsWrite (t : Nat) : List Oper → Bool
 | [] => false
 | o :: os => (match o.dst with | some d => Nat.beq d t | none => false) || opsWrite t os
def writes (t : Nat) : Code → Bool
 | .region _ ops _ => opsWrite t ops.toList
 | .seq a b => writes t a || writes t b
 | .cond _ a b => writes t a || writes t b
 | .block _ c => writes t c
 | .loop c => writes t c
 | .skip => false
 | .ret => false
 | .exit _ => false
 | _ => true
def keepOk (c : Code) : List Nat → Bool
 | [] => true
 | t :: ts => !writes t c && keepOk c ts
def opsIn (N : Nat) : List Oper → Bool
 | [] => true
 | o :: os => (match o.dst with | some d => Nat.blt d N | none => true) && opsIn N os
def codeIn (N : Nat) : Code → Bool
 | .region _ ops _ => opsIn N ops.toList
 | .seq a b => codeIn N a && codeIn N b
 | .cond _ a b => codeIn N a && codeIn N b
 | .block _ c => codeIn N c
 | .loop c => codeIn N c
 | _ => true
abbrev Post := Exit → Env → World → Prop
def thenV (K : Env → World → Prop) (Q : Post) : Post
 | .normal, e, w => K e w
 | x, e, w => Q x e w
def blockV (id : Nat) (Q : Post) : Post
 | .exit i, e, w => match Nat.beq i id with | true => Q .normal e w | false => Q (.exit i) e w
 | x, e, w => Q x e w
def DrewK (w : World) (F : World → Prop) : Prop := F w.drew
def WP (P : Program) (T : Tab) : Code → Ann → Post → Env → World → Prop
 | .skip, _, Q, e, w => Q .normal e w
 | .ret, _, Q, e, w => Q .ret e w
 | .exit i, _, Q, e, w => Q (.exit i) e w
 | .region _ ops false, _, Q, e, w => opsV P T ops ops.toList e (fun e' w' => Q .normal e' w') w
 | .region _ ops true, ann, Q, e, w => match ann with
  | .any n p => (match regOkM T ops n p with
   | true => DrewK w fun w1 => anyV P T ops w1 (fun _ => false) (fun w2 => Cel w1 w2) p e (fun e' w' => opsV P T ops (ops.toList.drop n) e' (fun e'' w'' => Q .normal e'' w'') w') w1
   | false => False)
  | .anyS n p => (match regOkM T ops n p with
   | true => DrewK w fun w1 => ∃ v0, Cel v0 w1 ∧ anyV P T ops v0 (fun _ => false) (fun w2 => Cel v0 w2) p e (fun e' w' => opsV P T ops (ops.toList.drop n) e' (fun e'' w'' => Q .normal e'' w'') w') w1
   | false => False)
  | .anyC n p => (match regOkM T ops n p with
   | true => DrewK w fun w1 => anyV P T ops w1 (clB T ops n) (fun w2 => Cel w1 w2) p e (fun e' w' => opsV P T ops (ops.toList.drop n) e' (fun e'' w'' => Q .normal e'' w'') w') w1
   | false => False)
  | .anyD n p => (match regOkM T ops n p with
   | true => DrewK w fun w1 => ∃ v0, Cel v0 w1 ∧ anyV P T ops v0 (clB T ops n) (fun w2 => Cel v0 w2) p e (fun e' w' => opsV P T ops (ops.toList.drop n) e' (fun e'' w'' => Q .normal e'' w'') w') w1
   | false => False)
  | .any2 n p q => (match regOk2 T ops n p q with
   | true => DrewK w fun w1 => anyV P T ops w1 (fun _ => false) (fun w2 => Cel w1 w2) p e (fun e' w' => anyV P T ops w' (fun _ => false) (fun _ => True) q e' (fun e'' w'' => Q .normal e'' w'') w') w1
   | false => False)
  | _ => False
 | .seq a b, ann, Q, e, w => match ann with
  | .two x y => WP P T a x (thenV (fun e' w' => WP P T b y Q e' w') Q) e w
  | .cut ms keep x y => (match keepOk a keep with
   | true => ∃ J : Cur (World → Prop) (shs ms), (∀ w, All (shs ms) fun vs => ap (shs ms) J vs (fun p => p w) → WP P T b y Q (zipE ms vs (restr e keep)) w) ∧
     WP P T a x (thenV (fun e' w' => getAll e' ms fun vs => ap (shs ms) J vs fun p => p w') Q) e w
   | false => False)
  | _ => False
 | .cond c a b, ann, Q, e, w => match ann with
  | .two x y => ofV (ev e c) fun v => boolOf v fun t => BoolK t (WP P T a x Q e w) (WP P T b y Q e w)
  | _ => False
 | .block id c, ann, Q, e, w => match ann with
  | .one x => WP P T c x (blockV id Q) e w
  | _ => False
 | .loop c, ann, Q, e, w => match ann with
  | .loop ms keep x => (match keepOk c keep with
   | true => ∃ (I : Cur (World → Prop) (shs ms)) (μ : Cur (World → Nat) (shs ms)), (getAll e ms fun vs => ap (shs ms) I vs (fun p => p w) ∧ ap (shs ms) μ vs fun _ => True) ∧
     ∀ w, All (shs ms) fun vs => ap (shs ms) I vs (fun p => p w) → ap (shs ms) μ vs fun m =>
      WP P T c x (thenV (fun e' w' => getAll e' ms fun vs' => ap (shs ms) I vs' (fun p => p w') ∧ ap (shs ms) μ vs' fun m' => m' w' < m w) Q) (zipE ms vs (restr e keep)) w
   | false => False)
  | _ => False
 | _, _, _, _, _ => False
theorem getAll_some {e : Env} {ms : List (Nat × Sh)} : ∀ {F : List Value → Prop}, getAll e ms F → ∃ vs, F vs ∧ ∀ (k t : Nat) (s : Sh) (v : Value), ms[k]? = some (t, s) → vs[k]? = some v → get e t = some v := by
 induction ms with
 | nil => intro F h; exact ⟨[], h, fun k t s v hk => by simp at hk⟩
 | cons x ms ih =>
  obtain ⟨t, s⟩ := x
  intro F h
  obtain ⟨v, hv, h⟩ := ofV_some h
  obtain ⟨vs, hF, hg⟩ := ih h
  refine ⟨v :: vs, hF, fun k t' s' v' hk hv' => ?_⟩
  cases k with
  | zero => simp at hk hv'; obtain ⟨rfl, rfl⟩ := hk; subst hv'; exact hv
  | succ k => simp at hk hv'; exact hg k t' s' v' hk hv'
theorem Ag.restr {N : Nat} {D : Nat → Bool} {a a' : Act} {e e' : Env} (hA : Ag N a e) (hA' : Ag N a' e') (hS : Same D a a') {keep : List Nat} (hk : ∀ t ∈ keep, D t = false) : Ag N a' (V.restr e keep) := by
 induction keep with
 | nil => exact ⟨hA'.size, fun t v h => by simp [V.restr, get] at h⟩
 | cons t ts ih =>
  have ih := ih fun u hu => hk u (List.mem_cons_of_mem _ hu)
  unfold V.restr
  split
  ·rename_i v hv
   exact ih.more (by rw [hS.slot t (hk t List.mem_cons_self)]; exact hA.at_ t v hv)
  ·exact ih
theorem Ag.zipE {N : Nat} {a : Act} {e e' : Env} (hA : Ag N a e) : ∀ {ms : List (Nat × Sh)} {vs : List Value}, Ag N a e' → (∀ (k t : Nat) (s : Sh) (v : Value), ms[k]? = some (t, s) → vs[k]? = some v → get e t = some v) → Ag N a (V.zipE ms vs e')
 | [], _, h, _ => h
 | (t, s) :: ms, [], h, _ => h
 | (t, s) :: ms, v :: vs, h, hg => by
  have ih := Ag.zipE hA (ms := ms) (vs := vs) h fun k t' s' v' hk hv => hg (k + 1) t' s' v' (by simpa using hk) (by simpa using hv)
  exact ih.more (hA.at_ t v (hg 0 t s v rfl rfl))
theorem keepOk_mem {c : Code} {keep : List Nat} (h : keepOk c keep = true) : ∀ t ∈ keep, writes t c = false := by
 induction keep with
 | nil => simp
 | cons t ts ih =>
  simp only [keepOk, Bool.and_eq_true] at h
  intro u hu
  rcases List.mem_cons.1 hu with rfl | hu
  ·simpa using h.1
  ·exact ih h.2 u hu
theorem opsIn_mem {N : Nat} {os : List Oper} (h : opsIn N os = true) : ∀ o ∈ os, ∀ t, o.dst = some t → t < N := by
 induction os with
 | nil => simp
 | cons o os ih =>
  simp only [opsIn, Bool.and_eq_true] at h
  intro o' ho' t ht
  rcases List.mem_cons.1 ho' with rfl | ho'
  ·have := h.1; rw [ht] at this; rw [Nat.blt_eq] at this; exact this
  ·exact ih h.2 o' ho' t ht
theorem opsWrite_mem {os : List Oper} {o : Oper} (ho : o ∈ os) {t : Nat} (ht : o.dst = some t) : opsWrite t os = true := by
 induction os with
 | nil => cases ho
 | cons x os ih =>
  rcases List.mem_cons.1 ho with rfl | ho
  ·simp [opsWrite, ht]
  ·simp [opsWrite, ih ho]
def lift (N : Nat) (D : Nat → Bool) (a : Act) (Q : Post) : Exit → Act → World → Prop := fun x a' w' =>
 match x with
 | .panic _ => False
 | x => ∃ e', Ag N a' e' ∧ Same D a a' ∧ Q x e' w'
theorem wp_loop_rel {P : Program} {c : Code} {Q : Exit → Act → World → Prop} (R : Nat → Act → World → Prop) (round : ∀ n a w, R n a w → c.wp P (Exit.then (fun a' w' => ∃ m, m < n ∧ R m a' w') Q) a w)
  {n : Nat} {a : Act} {w : World} (h0 : R n a w) : (Code.loop c).wp P Q a w := by
 intro b k cs
 have key : ∀ n a w, R n a w → ∃ e a' w', Q e a' w' ∧ Arrives P (lone (b.at a (.code c :: .inLoop c :: k)) cs w) b k cs e a' w' := by
  intro n
  induction n using Nat.strongRecOn with
  | _ n ih =>
   intro a w h
   obtain ⟨e, a₁, w₁, hq, harr⟩ := round n a w h b (.inLoop c :: k) cs
   cases e with
   | normal =>
    obtain ⟨m, hlt, hR⟩ := hq
    obtain ⟨e₂, a₂, w₂, hq₂, harr₂⟩ := ih m hlt a₁ w₁ hR
    exact ⟨e₂, a₂, w₂, hq₂, .of_steps (Steps.trans harr (.one step_inLoop)) harr₂⟩
   | exit id => exact ⟨_, a₁, w₁, hq, .pass (x := .inLoop c) rfl (fun _ _ => .inl (by simp)) harr⟩
   | goto l => exact ⟨_, a₁, w₁, hq, .pass (x := .inLoop c) rfl (fun _ _ => .inl (by simp)) harr⟩
   | ret => exact ⟨_, a₁, w₁, hq, .pass (x := .inLoop c) rfl (fun _ _ => .inl (by simp)) harr⟩
   | panic ch => exact ⟨_, a₁, w₁, hq, .pass (x := .inLoop c) rfl (fun _ _ => .inl (by simp)) harr⟩
   | outgrown => exact ⟨_, a₁, w₁, hq, .pass (x := .inLoop c) rfl (fun _ _ => .inl (by simp)) harr⟩
 obtain ⟨e, a', w', hq, harr⟩ := key n a w h0
 exact ⟨e, a', w', hq, .of_steps (.one step_loop) harr⟩
section
variable {P : Program} {T : Tab} (hT : T.Ok P) (hm : P.follows .mixedOrders = true)
theorem lift_mono {N : Nat} {D D' : Nat → Bool} {a a0 : Act} {Q : Post} {x : Exit} {a' : Act} {w' : World} (h : lift N D a Q x a' w') (hS : Same D' a0 a) (hD : ∀ t, D' t = false → D t = false) :
  lift N D' a0 Q x a' w' := by
 cases x <;> first | exact h | (obtain ⟨e', h1, h2, h3⟩ := h; exact ⟨e', h1, hS.trans (h2.mono hD), h3⟩)
theorem within_region {N : Nat} {ops : Array Oper} {id : Nat} {d : Bool} (h : opsIn N ops.toList = true) : Within N (fun t => writes t (.region id ops d)) ops.toList :=
 fun o ho t ht => ⟨opsIn_mem h o ho t ht, opsWrite_mem ho ht⟩
include hT hm in
theorem WP_sound {N : Nat} : ∀ (c : Code) (ann : Ann) (Q : Post) (e : Env) (w : World) (a : Act), codeIn N c = true → Ag N a e → WP P T c ann Q e w → c.wp P (lift N (fun t => writes t c) a Q) a w
 | .skip, ann, Q, e, w, a, _, hA, h => wp_skip ⟨e, hA, Same.refl _ _, h⟩
 | .ret, ann, Q, e, w, a, _, hA, h => wp_ret ⟨e, hA, Same.refl _ _, h⟩
 | .exit i, ann, Q, e, w, a, _, hA, h => wp_exit ⟨e, hA, Same.refl _ _, h⟩
 | .region id ops false, ann, Q, e, w, a, hN, hA, h => by
  refine wp_region_list ?_
  refine opsV_sound hT (D := fun t => writes t (.region id ops false)) (a0 := a) _ _ _ _ (within_region hN) hA (Same.refl _ _) h ?_
  exact fun a' e' w' hA' hS' hq => ⟨e', hA', hS', hq⟩
 | .region id ops true, ann, Q, e, w, a, hN, hA, h => by
  cases ann with
  | any n p =>
   simp only [WP] at h
   split at h
   ·rename_i hok
    exact region_any hT (D := fun t => writes t (.region id ops true)) (ClOk.none _ _ _) (Cel.refl _) hm (regOkM_ok hok) (within_region hN) (fun c a a' w hq => hq) hA h fun a' e' w' hA' hS' hq => ⟨e', hA', hS', hq⟩
   ·exact h.elim
  | anyS n p =>
   simp only [WP] at h
   split at h
   ·rename_i hok
    obtain ⟨v0, hv, h⟩ := h
    exact region_any hT (D := fun t => writes t (.region id ops true)) (ClOk.none _ _ _) hv hm (regOkM_ok hok) (within_region hN) (fun c a a' w hq => hq) hA h fun a' e' w' hA' hS' hq => ⟨e', hA', hS', hq⟩
   ·exact h.elim
  | anyC n p =>
   simp only [WP] at h
   split at h
   ·rename_i hok
    exact region_any hT (D := fun t => writes t (.region id ops true)) (ClOk.clB _ _ _) (Cel.refl _) hm (regOkM_ok hok) (within_region hN) (fun c a a' w hq => hq) hA h fun a' e' w' hA' hS' hq => ⟨e', hA', hS', hq⟩
   ·exact h.elim
  | anyD n p =>
   simp only [WP] at h
   split at h
   ·rename_i hok
    obtain ⟨v0, hv, h⟩ := h
    exact region_any hT (D := fun t => writes t (.region id ops true)) (ClOk.clB _ _ _) hv hm (regOkM_ok hok) (within_region hN) (fun c a a' w hq => hq) hA h fun a' e' w' hA' hS' hq => ⟨e', hA', hS', hq⟩
   ·exact h.elim
  | any2 n p q =>
   simp only [WP] at h
   split at h
   ·rename_i hok
    exact region_any2 hT (D := fun t => writes t (.region id ops true)) hm hok (within_region hN) (fun c a a' w hq => hq) hA h fun a' e' w' hA' hS' hq => ⟨e', hA', hS', hq⟩
   ·exact h.elim
  | _ => exact h.elim
 | .seq c d, ann, Q, e, w, a, hN, hA, h => by
  simp only [codeIn, Bool.and_eq_true] at hN
  have hD1 : ∀ t, writes t (.seq c d) = false → writes t c = false := fun t ht => by simp only [writes, Bool.or_eq_false_iff] at ht; exact ht.1
  have hD2 : ∀ t, writes t (.seq c d) = false → writes t d = false := fun t ht => by simp only [writes, Bool.or_eq_false_iff] at ht; exact ht.2
  cases ann <;> first | exact h.elim | skip
  ·rename_i x y
   refine wp_seq (wp_mono (WP_sound c x _ e w a hN.1 hA h) fun z a' w' hz => ?_)
   cases z with
   | normal =>
    obtain ⟨e', hA', hS', h'⟩ := hz
    exact wp_mono (WP_sound d y Q e' w' a' hN.2 hA' h') fun z a'' w'' hz => lift_mono hz (hS'.mono hD1) hD2
   | panic ch => exact hz
   | _ => obtain ⟨e', hA', hS', h'⟩ := hz; exact ⟨e', hA', hS'.mono hD1, h'⟩
  ·rename_i ms keep x y
   simp only [WP] at h
   split at h
   case h_2 => exact h.elim
   rename_i hk
   obtain ⟨J, hy, hx⟩ := h
   refine wp_seq (wp_mono (WP_sound c x _ e w a hN.1 hA hx) fun z a' w' hz => ?_)
   cases z with
   | normal =>
    obtain ⟨e', hA', hS', h'⟩ := hz
    obtain ⟨vs, hJ, hg⟩ := getAll_some (show getAll e' ms _ from h')
    have hA2 : Ag N a' (zipE ms vs (restr e keep)) := hA'.zipE (hA.restr hA' hS' fun t ht => keepOk_mem hk t ht) hg
    have := ap_all hJ (hy w') hJ
    exact wp_mono (WP_sound d y Q _ w' a' hN.2 hA2 this) fun z a'' w'' hz => lift_mono hz (hS'.mono hD1) hD2
   | panic ch => exact hz
   | _ => obtain ⟨e', hA', hS', h'⟩ := hz; exact ⟨e', hA', hS'.mono hD1, h'⟩
 | .cond c x y, ann, Q, e, w, a, hN, hA, h => by
  simp only [codeIn, Bool.and_eq_true] at hN
  cases ann <;> first | exact h.elim | skip
  rename_i p q
  obtain ⟨v, hv, h⟩ := ofV_some h
  obtain ⟨t, rfl, h⟩ := boolOf_some h
  have hc := ev_eval hA hv
  have hD1 : ∀ t, writes t (.cond c x y) = false → writes t x = false := fun t ht => by simp only [writes, Bool.or_eq_false_iff] at ht; exact ht.1
  have hD2 : ∀ t, writes t (.cond c x y) = false → writes t y = false := fun t ht => by simp only [writes, Bool.or_eq_false_iff] at ht; exact ht.2
  cases t with
  | true => exact wp_cond_true hc (wp_mono (WP_sound x p Q e w a hN.1 hA h) fun z a' w' hz => lift_mono hz (Same.refl _ _) hD1)
  | false => exact wp_cond_false hc (wp_mono (WP_sound y q Q e w a hN.2 hA h) fun z a' w' hz => lift_mono hz (Same.refl _ _) hD2)
 | .block id c, ann, Q, e, w, a, hN, hA, h => by
  cases ann <;> first | exact h.elim | skip
  rename_i x
  refine wp_block (wp_mono (WP_sound c x _ e w a hN hA h) fun z a' w' hz => ?_)
  cases z with
  | exit i =>
   obtain ⟨e', hA', hS', h'⟩ := hz
   simp only [blockV] at h'
   simp only [Exit.inBlock]
   split at h'
   ·rename_i hb
    rw [if_pos (Nat.eq_of_beq_eq_true hb)]
    exact ⟨e', hA', hS', h'⟩
   ·rename_i hb
    rw [if_neg (fun hh => by subst hh; simp at hb)]
    exact ⟨e', hA', hS', h'⟩
  | panic ch => exact hz
  | _ => obtain ⟨e', hA', hS', h'⟩ := hz; exact ⟨e', hA', hS', h'⟩
 | .loop c, ann, Q, e, w, a, hN, hA, h => by
  cases ann <;> first | exact h.elim | skip
  rename_i ms keep x
  simp only [WP] at h
  split at h
  case h_2 => exact h.elim
  rename_i hk
  obtain ⟨I, μ, h0, hr⟩ := h
  obtain ⟨vs0, ⟨hI0, hM0⟩, hg0⟩ := getAll_some h0
  let R : Nat → Act → World → Prop := fun n a' w' => ∃ vs, Ag N a' (zipE ms vs (restr e keep)) ∧ Same (fun t => writes t c) a a' ∧ ap (shs ms) I vs (fun p => p w') ∧ ap (shs ms) μ vs (fun m => m w' = n)
  obtain ⟨m0, hm0, _⟩ := ap_some hM0
  have hA2 : Ag N a (zipE ms vs0 (restr e keep)) := hA.zipE (hA.restr hA (Same.refl _ _) (D := fun t => writes t c) fun t ht => keepOk_mem hk t ht) hg0
  refine wp_loop_rel R ?_ (n := m0 w) ⟨vs0, hA2, Same.refl _ _, hI0, ap_mk hm0 rfl⟩
  rintro n a1 w1 ⟨vs, hA1, hS1, hI1, hM1⟩
  obtain ⟨m, hm1, hmn⟩ := ap_some hM1
  obtain ⟨m', hm2, hbody⟩ := ap_some (ap_all hI1 (hr w1) hI1)
  rw [hm1] at hm2
  cases hm2
  refine wp_mono (WP_sound c x _ _ w1 a1 hN hA1 hbody) fun z a' w' hz => ?_
  cases z with
  | normal =>
   obtain ⟨e', hA', hS', h'⟩ := hz
   obtain ⟨vs', ⟨hI', hM'⟩, hg'⟩ := getAll_some (show getAll e' ms _ from h')
   have hA2 : Ag N a' (zipE ms vs' (restr e keep)) := hA'.zipE (hA.restr hA' (hS1.trans hS') fun t ht => keepOk_mem hk t ht) hg'
   obtain ⟨m', hm', hlt⟩ := ap_some hM'
   exact ⟨m' w', by rw [← hmn]; exact hlt, vs', hA2, hS1.trans hS', hI', ap_mk hm' rfl⟩
  | panic ch => exact hz
  | _ => obtain ⟨e', hA', hS', h'⟩ := hz; exact ⟨e', hA', hS1.trans hS', h'⟩
 | .rangeFunc .., _, _, _, _, _, _, _, h => h.elim
 | .scope _, _, _, _, _, _, _, _, h => h.elim
 | .label _, _, _, _, _, _, _, _, h => h.elim
 | .goto _, _, _, _, _, _, _, _, h => h.elim
 | .refuse _, _, _, _, _, _, _, _, h => h.elim
/-! ### Functions -/
def resV (T : Tab) (e : Env) (w : World) : List ResultVar → (List Value → Prop) → Prop
 | [], F => F []
 | .tmp t :: r, F => ofV (get e t) fun v => resV T e w r fun vs => F (v :: vs)
 | .cell a t :: r, F => ofV (get e a) fun v => ptrOf v fun p => match T.t t with | some i => ldSh i.sh w p fun u => resV T e w r fun vs => F (u :: vs) | none => False
def tupled : List Value → Value
 | [v] => v
 | vs => .tuple vs.toArray
def fnQ (T : Tab) (rv : List ResultVar) (rs : List Sh) (K : Cur (World → Prop) rs) : Post := fun x e w =>
 match x with
 | .normal => resV T e w rv fun vs => ap rs K vs fun p => p w
 | .ret => resV T e w rv fun vs => ap rs K vs fun p => p w
 | _ => False
def argE (i : Nat) : List Value → Env
 | [] => []
 | v :: vs => (i, v) :: argE (i + 1) vs
def rvS (a : Act) : ResultVar → Sem Value
 | .tmp t => pure (a.tmps.getD t undef)
 | .cell b t => do loadVar t (← asAddr (a.tmps.getD b undef))
include hT in
theorem resV_run {N : Nat} {a : Act} {e : Env} {w : World} (hA : Ag N a e) : ∀ {rv : List ResultVar} {F : List Value → Prop}, resV T e w rv F →
  ∃ vs, F vs ∧ (rv.mapM (rvS a)).run P w = .ok vs w
 | [], F, h => ⟨[], h, rfl⟩
 | .tmp t :: r, F, h => by
  obtain ⟨v, hv, h⟩ := ofV_some h
  obtain ⟨vs, hF, hr⟩ := resV_run hA h
  refine ⟨_, hF, ?_⟩
  have h1 : (rvS a (.tmp t)).run P w = .ok v w := by simp only [rvS, Sem.run_pure, hA.at_ t v hv]
  rw [List.mapM_cons]
  simp only [Sem.run_bind, Sem.run_pure, Result.andThen_ok, hr, h1]
 | .cell b t :: r, F, h => by
  obtain ⟨v, hv, h⟩ := ofV_some h
  obtain ⟨p, rfl, h⟩ := ptrOf_some h
  split at h
  ·rename_i i hi
   obtain ⟨u, h, hl⟩ := ldSh_run (hT.tyOk hi).1 h
   obtain ⟨vs, hF, hr⟩ := resV_run hA h
   refine ⟨_, hF, ?_⟩
   have h1 : (rvS a (.cell b t)).run P w = .ok u w := by simp only [rvS, Sem.run_bind, hA.at_ b _ hv, asAddr, Sem.run_pure, Result.andThen_ok, hl w (Cel.refl _)]
   rw [List.mapM_cons]
   simp only [Sem.run_bind, Sem.run_pure, Result.andThen_ok, hr, h1]
  ·exact h.elim
theorem argE_get (vs : List Value) : ∀ i t v, get (argE i vs) t = some v → i ≤ t ∧ vs[t - i]? = some v := by
 induction vs with
 | nil => intro i t v h; cases h
 | cons u vs ih =>
  intro i t v h
  by_cases hit : i = t
  ·subst hit
   rw [argE, get_cons_same] at h
   cases h
   exact ⟨Nat.le_refl _, by simp⟩
  ·rw [argE, get_cons_ne hit] at h
   obtain ⟨h1, h2⟩ := ih (i + 1) t v h
   exact ⟨by omega, by rw [show t - i = (t - (i + 1)) + 1 by omega, List.getElem?_cons_succ]; exact h2⟩
theorem apC_ex {X : Type} {c : Cell} {f : CurC X c} {v : Value} {x : X} (h : apC c f v = some x) {H : Value → Prop} (hH : H v) : ExC c H := by
 cases c <;> cases v <;> first | (cases h; done) | exact ⟨_, hH⟩ | exact ⟨_, _, _, hH⟩ | skip
 ·rename_i k j n
  simp only [apC] at h
  split at h
  ·rename_i hk; have := of_decide_eq_true hk; subst this; exact ⟨_, hH⟩
  ·cases h
 ·rename_i fn x y
  cases fn <;> first | (cases h; done) | skip
  simp only [apC] at h
  split at h
  ·rename_i h1 h2
   have e1 : x = #[] := by apply Array.ext'; simpa using h1
   have e2 : y = #[] := by apply Array.ext'; simpa using h2
   subst e1; subst e2
   exact ⟨_, hH⟩
  ·cases h
 ·rename_i fn x y
  cases fn <;> first | (cases h; done) | skip
  simp only [apC] at h
  split at h
  ·rename_i h1
   have e1 : x = #[] := by apply Array.ext'; simpa using h1
   subst e1
   exact ⟨_, _, hH⟩
  ·cases h
theorem apCs_ex {X : Type} {cs : List Cell} : ∀ {f : CurCs X cs} {vs : List Value} {x : X}, apCs cs f vs = some x → ∀ {H : List Value → Prop}, H vs → ExCs cs H := by
 induction cs with
 | nil => intro f vs x h H hH; cases vs <;> first | (cases h; done) | exact hH
 | cons c cs ih =>
  intro f vs x h H hH
  cases vs with
  | nil => cases h
  | cons v vs =>
   simp only [apCs] at h
   split at h
   ·rename_i g hg; exact apC_ex hg (H := fun v => ExCs cs fun vs => H (v :: vs)) (ih h (H := fun vs => H (v :: vs)) hH)
   ·cases h
theorem apS_ex {X : Type} {s : Sh} {f : CurS X s} {v : Value} {x : X} (h : apS s f v = some x) {H : Value → Prop} (hH : H v) : ExSh s H := by
 cases s with
 | one c => exact apC_ex h hH
 | agg cs => cases v <;> first | (cases h; done) | exact apCs_ex (cs := cs) h (H := fun vs => H (.agg vs.toArray)) hH
 | row n => cases v <;> first | (cases h; done) | exact ⟨_, hH⟩
theorem apF_ex {X : Type} {ss : List Sh} : ∀ {f : Cur X ss} {vs : List Value} {x : X}, apF ss f vs = some x → ∀ {H : List Value → Prop}, H vs → ExShs ss H := by
 induction ss with
 | nil => intro f vs x h H hH; cases vs <;> first | (cases h; done) | exact hH
 | cons s ss ih =>
  intro f vs x h H hH
  cases vs with
  | nil => cases h
  | cons v vs =>
   simp only [apF] at h
   split at h
   ·rename_i g hg; exact apS_ex hg (H := fun v => ExShs ss fun vs => H (v :: vs)) (ih h (H := fun vs => H (v :: vs)) hH)
   ·cases h
include hT hm in
theorem fn_sound {f : FuncId} {fn : Func} {c : Code} (hf : P.funcs[f]? = some fn) (hb : fn.body = some c) (ann : Ann) (args : List Value) (rs : List Sh) (K : Cur (World → Prop) rs) (w : World)
  (hN : (codeIn fn.ntmps c && Nat.ble args.length fn.ntmps) = true) (h : WP P T c ann (fnQ T fn.results.toList rs K) (argE 0 args) w) :
  Calls P f args.toArray w fun en w' => ExShs rs fun vs => en = .returned (tupled vs) ∧ ap rs K vs fun p => p w' := by
 simp only [Bool.and_eq_true] at hN
 have hlen := Nat.le_of_ble_eq_true hN.2
 refine calls_of_wp hf hb ?_
 have hA : Ag fn.ntmps { tmps := args.toArray ++ Array.replicate (fn.ntmps - args.toArray.size) undef, defers := [] } (argE 0 args) := by
  refine ⟨by simp; omega, fun t v ht => ?_⟩
  obtain ⟨_, h2⟩ := argE_get args 0 t v ht
  simp only [Nat.sub_zero] at h2
  have hlt : t < args.length := (List.getElem?_eq_some_iff.1 h2).1
  rw [Array.getD_eq_getD_getElem?, Array.getElem?_append_left (by simpa using hlt)]
  simp [h2]
 refine wp_mono (WP_sound hT hm c ann _ _ w _ hN.1 hA h) fun x a' w' hx => ?_
 have fin : ∀ {e' : Env}, a'.defers = [] → Ag fn.ntmps a' e' → resV T e' w' fn.results.toList (fun vs => ap rs K vs fun p => p w') →
   a'.defers = [] ∧ ∃ v, (results fn a'.tmps).run P w' = .ok v w' ∧ ExShs rs fun vs => Ending.returned v = .returned (tupled vs) ∧ ap rs K vs fun p => p w' := by
  intro e' hd hA' hr
  obtain ⟨vs, hK, hrun⟩ := resV_run hT hA' hr
  obtain ⟨x, hx, _⟩ := ap_some hK
  refine ⟨hd, tupled vs, ?_, apF_ex hx ⟨rfl, hK⟩⟩
  unfold results
  have hrun' : (fn.results.mapM (rvS a')).run P w' = .ok vs.toArray w' := by
   rw [Array.mapM_eq_mapM_toList, Sem.run_map, hrun]; rfl
  show ((fn.results.mapM (rvS a') >>= fun vs => (pure (if h : vs.size = 1 then vs[0] else .tuple vs) : Sem Value))).run P w' = _
  rw [Sem.run_bind, hrun']
  simp only [Result.andThen_ok, Sem.run_pure]
  congr 1
  match vs with
  | [] => rfl
  | [v] => rfl
  | _ :: _ :: _ => rfl
 cases x with
 | normal => obtain ⟨e', hA', hs, hr⟩ := hx; exact fin hs.defers hA' hr
 | ret => obtain ⟨e', hA', hs, hr⟩ := hx; exact fin hs.defers hA' hr
 | panic ch => exact hx.elim
 | exit i => obtain ⟨e', _, _, hr⟩ := hx; exact hr.elim
 | goto i => obtain ⟨e', _, _, hr⟩ := hx; exact hr.elim
 | outgrown => obtain ⟨e', _, _, hr⟩ := hx; exact hr.elim
include hT hm in
theorem fn_calls {f : FuncId} {fn : Func} {c : Code} (hf : P.funcs[f]? = some fn) (hb : fn.body = some c) (ann : Ann) (args : List Value) (rs : List Sh) (K : Cur (World → Prop) rs) (w : World)
  (hN : (codeIn fn.ntmps c && Nat.ble args.length fn.ntmps) = true) {N : Prop} {Q : Ending → World → Prop} (hw : WP P T c ann (fnQ T fn.results.toList rs K) (argE 0 args) w = N)
  (he : (fun (en : Ending) (w' : World) => ExShs rs fun vs => en = .returned (tupled vs) ∧ ap rs K vs fun p => p w') = Q) (h : N) : Calls P f args.toArray w Q :=
 he ▸ fn_sound hT hm hf hb ann args rs K w hN (hw.symm ▸ h)
end
end Go.V
namespace Go.V
/-! ### A seat's tables -/
def FAll (P : Program) : List (Nat × List Sh) → Prop
 | [] => True
 | x :: r => Enters P x.1 ∧ FAll P r
def ZAll (P : Program) : List (Nat × TInfo) → Prop
 | [] => True
 | x :: r => (match x.2.zero with | some l => zeroOf P x.1 = l.toArray | none => True) ∧ ZAll P r
def EqOk (P : Program) (t : Nat) (cs : List Cell) : Prop := ∀ xs ys w, areC cs xs = true → areC cs ys = true →
  (do eqGuard .eql t (.tmp 0) (.tmp 0) (.agg xs.toArray) (.agg ys.toArray); binOp .eql t (.agg xs.toArray) (.agg ys.toArray) : Sem Value).run P w = .ok (.bool (eqL xs ys)) w ∧
  (do eqGuard .neq t (.tmp 0) (.tmp 0) (.agg xs.toArray) (.agg ys.toArray); binOp .neq t (.agg xs.toArray) (.agg ys.toArray) : Sem Value).run P w = .ok (.bool (!eqL xs ys)) w
def EAll (P : Program) : List (Nat × TInfo) → Prop
 | [] => True
 | x :: r => (match x.2.eq with | some cs => EqOk P x.1 cs | none => True) ∧ EAll P r
def XAll (P : Program) : List Nat → Prop
 | [] => True
 | g :: r => CloneRun P g ∧ XAll P r
theorem XAll.ok {P : Program} : ∀ {l : List Nat}, XAll P l → ∀ g, isExt l g = true → CloneRun P g
 | [], _, g, h => by cases h
 | a :: l, h, g, hg => by
  simp only [isExt, Bool.or_eq_true] at hg
  rcases hg with hg | hg
  ·have := Nat.eq_of_beq_eq_true hg; subst this; exact h.1
  ·exact XAll.ok h.2 g hg
theorem Tab.Ok.of {P : Program} {T : Tab} (h1 : T.ty.all (V.tyOk P) = true) (h2 : ZAll P T.ty) (h3 : EAll P T.ty) (h4 : FAll P T.fn) (h5 : XAll P T.ext := by exact trivial) : T.Ok P := by
 refine ⟨h1, ?_, ?_, ?_, XAll.ok h5⟩
 ·intro t i l ht hl
  have key : ∀ (L : List (Nat × TInfo)), ZAll P L → ∀ x ∈ L, ∀ l, x.2.zero = some l → zeroOf P x.1 = l.toArray := by
   intro L
   induction L with
   | nil => intro _ x hx; cases hx
   | cons y L ih =>
    intro h x hx l hl
    rcases List.mem_cons.1 hx with rfl | hx
    ·have := h.1; rw [hl] at this; exact this
    ·exact ih h.2 x hx l hl
  exact key _ h2 _ (look_mem ht) l hl
 ·intro t i cs ht hcs
  have key : ∀ (L : List (Nat × TInfo)), EAll P L → ∀ x ∈ L, ∀ cs, x.2.eq = some cs → EqOk P x.1 cs := by
   intro L
   induction L with
   | nil => intro _ x hx; cases hx
   | cons y L ih =>
    intro h x hx l hl
    rcases List.mem_cons.1 hx with rfl | hx
    ·have := h.1; rw [hl] at this; exact this
    ·exact ih h.2 x hx l hl
  exact key _ h3 _ (look_mem ht) cs hcs
 ·intro f ss hf
  have key : ∀ (L : List (Nat × List Sh)), FAll P L → ∀ x ∈ L, Enters P x.1 := by
   intro L
   induction L with
   | nil => intro _ x hx; cases hx
   | cons y L ih =>
    intro h x hx
    rcases List.mem_cons.1 hx with rfl | hx
    ·exact h.1
    ·exact ih h.2 x hx
  exact key _ h4 _ (look_mem hf)
end Go.V
