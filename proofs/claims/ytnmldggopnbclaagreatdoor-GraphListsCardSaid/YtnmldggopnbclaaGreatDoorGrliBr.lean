/- A part of the proof: plain forms of functions and laws about them. -/
import Derived.Test.YtnmldggopnbclaaGreatDoorGrliBq
namespace Go.V
open Go.RowKit (Below)
section
variable {w0 : World}
theorem lift_after {N : Nat} {D : Nat → Bool} {a : Act} {ρ : Rn} {m m' : AMem} {w : World} {e2 : Env} {z : Exit} {a' : Act} {w' : World} {ds : DfL} (hd : DR ρ ds a.defers)
  (h : lift N D a (fun x e2' w' => x = .normal ∧ ∃ ρ', Ev w0 ρ m w ρ' m' w' ∧ ER ρ' e2 e2') z a' w') : After N w0 ρ m w .normal e2 m' ds z a' w' := by
 cases z with
 | normal => obtain ⟨e', hA, hS, _, ρ', hv, he⟩ := h; exact ⟨rfl, ρ', e', hA, hv, he, by rw [hS.defers]; exact hd.mono hv.le⟩
 | panic ch => exact h.elim
 | _ => obtain ⟨_, _, _, hq, _⟩ := h; cases hq
theorem opsV_pre {P : Program} {T : Tab} (hT : T.Ok P) {N : Nat} {D : Nat → Bool} {ops : Array Oper} {K : Env → World → Prop} {Q : Exit → Act → World → Prop} {a0 : Act} {rest : List Oper} :
  ∀ (os : List Oper) (a : Act) (e : Env) (w : World), Within N D os → Ag N a e → Same D a0 a → opsV P T ops os e K w →
   (∀ a e w, Ag N a e → Same D a0 a → K e w → wpList P ops Q rest a w) → wpList P ops Q (os ++ rest) a w
 | [], a, e, w, _, hA, hS, h, hQ => hQ a e w hA hS h
 | o :: os, a, e, w, hW, hA, hS, h, hQ => by
  have hWo := hW o List.mem_cons_self
  have hWs : Within N D os := fun o' ho' => hW o' (List.mem_cons_of_mem _ ho')
  obtain ⟨e', hA', h⟩ := guardV_sound hA h
  rw [List.cons_append]
  unfold wpList
  rcases h with ⟨hw, h⟩ | ⟨hw, h⟩
  ·rw [if_pos hw]
   refine .inl ((opV_sound hT hA' h).wp fun v w' hK => ?_)
   exact opsV_pre hT os _ _ _ hWs (hA'.put _ _ fun t ht => (hWo t ht).1) (hS.put _ _ fun t ht => (hWo t ht).2) hK hQ
  ·rw [if_neg (by simp [hw])]
   exact opsV_pre hT os _ _ _ hWs (hA'.put _ _ fun t ht => (hWo t ht).1) (hS.put _ _ fun t ht => (hWo t ht).2) h hQ
theorem lastDefer_eq : ∀ {l os : List Oper} {o : Oper}, lastDefer l = some (os, o) → l = os ++ [o]
 | [], os, o, h => by cases h
 | [x], os, o, h => by
  unfold lastDefer at h
  split at h
  ·cases h; rfl
  ·cases h
 | x :: y :: l, os, o, h => by
  unfold lastDefer at h
  split at h
  ·rename_i l' d h1
   cases h
   rw [lastDefer_eq h1]; rfl
  ·cases h
theorem deferV_ok {P : Program} {T : Tab} {ρ : Rn} {o : Oper} {e e' : Env} {d : Nat × List Value} {N : Nat} {a : Act} {ops : Array Oper} {Q : Exit → Act → World → Prop} {w : World} (h : deferV T o e = some d) (he : ER ρ e e') (hA : Ag N a e')
  (k : ∀ vs cap, LR ρ d.2 (vs ++ cap).toList → Q .normal { a with defers := { target := .fn (.func d.1) cap, args := vs } :: a.defers } w) : wpList P ops Q [o] a w := by
 have fin : ∀ {df : Deferred}, o.guard = none → o.dst = none → (execOp a.eval o).run P w = .ok (.defer df) w → Q .normal { a with defers := df :: a.defers } w → wpList P ops Q [o] a w := by
  intro df hgd hdst hx hq
  unfold wpList
  have hw : Region.wanted o (yielded ops a.tmps) = true := by unfold Region.wanted; rw [hgd]
  rw [if_pos hw]
  refine .inl ?_
  unfold Oper.wp
  rw [hx]
  show wpList P ops Q [] _ w
  rw [hdst]
  exact hq
 unfold deferV at h
 split at h
 ·rename_i g xs ts hop hgd hdst
  split at h
  ·rename_i us rs h1 h2
   cases h
   have hev : evs e' xs.toList fun vs => LR ρ us vs := evsE_ok he h1 fun vs r => r
   have hr := evs_eval hA hev
   refine fin hgd hdst (df := { target := .fn (.func g) #[], args := xs.map a.eval }) (by simp [execOp, hop, resolve, Deferred.ofValue, Act.eval]) (k _ _ ?_)
   simpa using hr
  ·cases h
 ·rename_i f xs ts hop hgd hdst
  split at h
  ·rename_i g first cap us h1 h2
   cases h
   have hev : evs e' xs.toList fun vs => LR ρ us vs := evsE_ok he h2 fun vs r => r
   have hr := evs_eval hA hev
   obtain ⟨v, hv, r⟩ := evE_ok he h1
   have hv2 : a.eval (.tmp f) = v := ev_eval hA hv
   cases r with
   | func _ _ _ xs' ys' a1 a2 a3 a4 =>
    refine fin hgd hdst (df := { target := .fn (.func g) ys', args := xs' ++ xs.map a.eval }) (by simp [execOp, hop, resolve, Deferred.ofValue, hv2]) (k _ _ ?_)
    have l1 : LR ρ first.toList xs'.toList := ⟨by simpa using a1, fun i u v p q => a3 i u v (by simpa using p) (by simpa using q)⟩
    have l3 : LR ρ cap.toList ys'.toList := ⟨by simpa using a2, fun i u v p q => a4 i u v (by simpa using p) (by simpa using q)⟩
    have := (l1.app hr).app l3
    simpa using this
  ·cases h
 ·cases h
theorem codeE_ok {P : Program} {T : Tab} (hT : T.Ok P) (hmx : P.follows .mixedOrders = true) {callE : FuncId → List Value → AMem → Option (Value × AMem)} (hc : CallOk P w0 callE) {N : Nat} : ∀ (f : Nat) (c : Code) (ann : Ann) {ρ : Rn} {m m' : AMem} {w : World} {e e' e2 : Env} {x : Exit} {a : Act} {ds ds' : DfL},
  codeE P T callE f c ann e m ds = some (x, e2, m', ds') → codeIn N c = true → Ag N a e' → ER ρ e e' → Mem w0 ρ m w → DR ρ ds a.defers → c.wp P (After N w0 ρ m w x e2 m' ds') a w := by
 intro f
 induction f using Nat.strongRecOn with
 | _ f ihs =>
 cases f with
 | zero => intro c ann ρ m m' w e e' e2 x a ds ds' h; cases h
 | succ f =>
  have ih := ihs f (Nat.lt_succ_self f)
  intro c ann ρ m m' w e e' e2 x a ds ds' h hN hA he hm hd
  cases c with
  | skip => cases h; exact wp_skip ⟨rfl, ρ, e', hA, Ev.refl hm, he, hd⟩
  | ret => cases h; exact wp_ret ⟨rfl, ρ, e', hA, Ev.refl hm, he, hd⟩
  | exit i => cases h; exact wp_exit ⟨rfl, ρ, e', hA, Ev.refl hm, he, hd⟩
  | region id ops d =>
   cases d with
   | false =>
    simp only [codeE] at h
    split at h
    case h_2 =>
     rename_i os o hl
     split at h
     ·rename_i e1 m1 h1
      split at h
      ·rename_i d h2
       cases h
       refine wp_region_list ?_
       rw [lastDefer_eq hl]
       have hW := within_region (N := N) (id := id) (d := false) hN
       rw [lastDefer_eq hl] at hW
       refine opsV_pre hT (D := fun t => writes t (.region id ops false)) (a0 := a) (K := fun e2' w' => ∃ ρ', Ev w0 ρ m w ρ' m' w' ∧ ER ρ' e2 e2') os a e' w (fun o' ho' => hW o' (List.mem_append_left _ ho')) hA (Same.refl _ _) (opsE_ok hT hc _ h1 he hm fun ρ' e2' w' v r => ⟨ρ', v, r⟩) ?_
       rintro a' e1' w' hA' hS' ⟨ρ', hv, r⟩
       exact deferV_ok h2 r hA' fun vs cap rv => ⟨rfl, ρ', e1', ⟨hA'.size, hA'.at_⟩, hv, r, .cons rv (by rw [hS'.defers]; exact hd.mono hv.le)⟩
      ·cases h
     ·cases h
    split at h
    ·rename_i e1 m1 h1
     cases h
     refine wp_mono (WP_sound hT hmx (.region id ops false) ann (fun x e2' w' => x = .normal ∧ ∃ ρ', Ev w0 ρ m w ρ' m' w' ∧ ER ρ' e2 e2') e' w a hN hA ?_) fun z a' w' hz => lift_after hd hz
     exact opsE_ok hT hc _ h1 he hm fun ρ' e2' w' v r => ⟨rfl, ρ', v, r⟩
    ·cases h
   | true =>
    simp only [codeE] at h
    split at h
    ·rename_i n p
     split at h
     ·rename_i e1 m1 h1
      cases h
      refine wp_mono (WP_sound hT hmx (.region id ops true) (.anyD n p) (fun x e2' w' => x = .normal ∧ ∃ ρ', Ev w0 ρ m w ρ' m' w' ∧ ER ρ' e2 e2') e' w a hN hA ?_) fun z a' w' hz => lift_after hd hz
      exact regE_ok hT hc h1 he hm fun ρ' e2' w' v r => ⟨rfl, ρ', v, r⟩
     ·cases h
    ·cases h
  | seq c d =>
   simp only [codeIn, Bool.and_eq_true] at hN
   simp only [codeE] at h
   split at h
   ·rename_i y z
    refine wp_seq ?_
    split at h
    ·rename_i e1 m1 ds1 h1
     refine wp_mono (ih c y h1 hN.1 hA he hm hd) fun x' a' w' hz => ?_
     obtain ⟨rfl, ρ1, e1', hA1, v1, he1, hd1⟩ := hz
     exact wp_mono (ih d z h hN.2 hA1 he1 v1.mem hd1) fun x2 a2 w2 h2 => After.from hm v1 h2
    ·rename_i hne
     refine wp_mono (ih c y h hN.1 hA he hm hd) fun x' a' w' hz => ?_
     obtain ⟨rfl, rest⟩ := hz
     cases x' with
     | normal => exact absurd h (hne _ _ _)
     | _ => exact ⟨rfl, rest⟩
   ·cases h
  | cond cc c d =>
   simp only [codeIn, Bool.and_eq_true] at hN
   simp only [codeE] at h
   split at h
   ·rename_i y z
    split at h
    ·rename_i h1
     obtain ⟨v, hv, r⟩ := evE_ok he h1
     cases r
     exact wp_cond_true (ev_eval hA hv) (ih c y h hN.1 hA he hm hd)
    ·rename_i h1
     obtain ⟨v, hv, r⟩ := evE_ok he h1
     cases r
     exact wp_cond_false (ev_eval hA hv) (ih d z h hN.2 hA he hm hd)
    ·cases h
   ·cases h
  | block id c =>
   simp only [codeE] at h
   split at h
   ·rename_i y
    refine wp_block ?_
    split at h
    ·rename_i i e1 m1 ds1 h1
     split at h
     ·rename_i hb
      cases h
      have hb := Nat.eq_of_beq_eq_true hb
      refine wp_mono (ih c y h1 hN hA he hm hd) fun x' a' w' hz => ?_
      obtain ⟨rfl, rest⟩ := hz
      simp only [Exit.inBlock]
      rw [if_pos hb]
      exact ⟨rfl, rest⟩
     ·rename_i hb
      cases h
      refine wp_mono (ih c y h1 hN hA he hm hd) fun x' a' w' hz => ?_
      obtain ⟨rfl, rest⟩ := hz
      simp only [Exit.inBlock]
      rw [if_neg (fun hh => by subst hh; simp at hb)]
      exact ⟨rfl, rest⟩
    ·rename_i hne
     refine wp_mono (ih c y h hN hA he hm hd) fun x' a' w' hz => ?_
     obtain ⟨rfl, rest⟩ := hz
     cases x' with
     | exit i => exact absurd h (hne _ _ _ _)
     | _ => exact ⟨rfl, rest⟩
   ·cases h
  | loop c =>
   cases ann with
   | one y =>
    let R : Nat → Act → World → Prop := fun n a' w' => n ≤ f + 1 ∧ ∃ ρ1 m1 e1 e1' ds1, codeE P T callE n (.loop c) (.one y) e1 m1 ds1 = some (x, e2, m', ds') ∧ Ag N a' e1' ∧ Ev w0 ρ m w ρ1 m1 w' ∧ ER ρ1 e1 e1' ∧ DR ρ1 ds1 a'.defers
    refine wp_loop_rel R ?_ (n := f + 1) ⟨Nat.le_refl _, ρ, m, e, e', ds, h, hA, Ev.refl hm, he, hd⟩
    rintro n a1 w1 ⟨hn, ρ1, m1, e1, e1', ds1, h1, hA1, v1, he1, hd1⟩
    cases n with
    | zero => cases h1
    | succ n =>
     simp only [codeE] at h1
     split at h1
     ·rename_i e3 m3 ds3 h3
      refine wp_mono (ihs n (by omega) c y h3 hN hA1 he1 v1.mem hd1) fun x' a' w' hz => ?_
      obtain ⟨rfl, ρ2, e3', hA2, v2, he2, hd2⟩ := hz
      exact ⟨n, Nat.lt_succ_self n, by omega, ρ2, m3, e3, e3', ds3, h1, hA2, Ev.trans hm v1 v2, he2, hd2⟩
     ·rename_i hne
      refine wp_mono (ihs n (by omega) c y h1 hN hA1 he1 v1.mem hd1) fun x' a' w' hz => ?_
      have hz2 := After.from hm v1 hz
      obtain ⟨rfl, rest⟩ := hz
      cases x' with
      | normal => exact absurd h1 (hne _ _ _)
      | _ => exact hz2
   | _ => cases h
  | _ => cases h
end
end Go.V
