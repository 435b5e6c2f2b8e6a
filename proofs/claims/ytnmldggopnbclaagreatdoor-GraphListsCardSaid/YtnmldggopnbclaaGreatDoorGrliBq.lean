/- A part of the proof: plain forms of functions and laws about them. -/
import Derived.Test.YtnmldggopnbclaaGreatDoorGrliBp
namespace Go.V
open Go.RowKit (Below)
def anyL (P : Program) (T : Tab) (callE : FuncId → List Value → AMem → Option (Value × AMem)) (ops : Array Oper) (cl : Nat → Bool) (p : Plan) (e : Env) (m : AMem) : Option (Env × AMem) :=
 match anyE P T callE ops m [] cl p e m with
 | some r => some r
 | none => match anyE P T callE ops m [] (fun _ => true) p e m with
  | some (_, m1) => anyE P T callE ops m ((m1.log.take (m1.log.length - m.log.length)).filter fun t => Nat.blt t m.next) cl p e m
  | none => none
theorem anyL_some {P : Program} {T : Tab} {callE : FuncId → List Value → AMem → Option (Value × AMem)} {ops : Array Oper} {cl : Nat → Bool} {p : Plan} {e : Env} {m : AMem} {r : Env × AMem} (h : anyL P T callE ops cl p e m = some r) : ∃ L, anyE P T callE ops m L cl p e m = some r := by
 unfold anyL at h
 split at h
 ·rename_i r' h1; cases h; exact ⟨_, h1⟩
 ·split at h
  ·exact ⟨_, h⟩
  ·cases h
def regE (P : Program) (T : Tab) (callE : FuncId → List Value → AMem → Option (Value × AMem)) (ops : Array Oper) (n : Nat) (p : Plan) (e : Env) (m : AMem) : Option (Env × AMem) :=
 match regOkM T ops n p with
 | false => none
 | true => match anyL P T callE ops (clB T ops n) p e m with
  | some (e1, m1) => opsE P T callE ops (ops.toList.drop n) e1 m1
  | none => none
abbrev DfL := List (Nat × List Value)
def lastDefer : List Oper → Option (List Oper × Oper)
 | [] => none
 | [o] => match o.op with | .defer _ => some ([], o) | _ => none
 | o :: os => match lastDefer os with | some (l, d) => some (o :: l, d) | none => none
def deferV (T : Tab) (o : Oper) (e : Env) : Option (Nat × List Value) :=
 match o.op, o.guard, o.dst with
 | .defer { callee := .value (.func g), args := xs, .. }, none, none => match evsE e xs.toList, look T.fn g with | some us, some _ => some (g, us) | _, _ => none
 | .defer { callee := .value (.tmp f), args := xs, .. }, none, none => match evE e (.tmp f), evsE e xs.toList with | some (.func (.func g) first cap), some us => some (g, first.toList ++ us ++ cap.toList) | _, _ => none
 | _, _, _ => none
def codeE (P : Program) (T : Tab) (callE : FuncId → List Value → AMem → Option (Value × AMem)) : Nat → Code → Ann → Env → AMem → DfL → Option (Exit × Env × AMem × DfL)
 | 0, _, _, _, _, _ => none
 | f + 1, c, ann, e, m, ds => match c with
  | .skip => some (.normal, e, m, ds)
  | .ret => some (.ret, e, m, ds)
  | .exit i => some (.exit i, e, m, ds)
  | .region _ ops false => (match lastDefer ops.toList with
   | none => (match opsE P T callE ops ops.toList e m with | some (e1, m1) => some (.normal, e1, m1, ds) | none => none)
   | some (os, o) => (match opsE P T callE ops os e m with
    | some (e1, m1) => (match deferV T o e1 with | some d => some (.normal, e1, m1, d :: ds) | none => none)
    | none => none))
  | .region _ ops true => (match ann with
   | .anyD n p => (match regE P T callE ops n p e m with | some (e1, m1) => some (.normal, e1, m1, ds) | none => none)
   | _ => none)
  | .seq a b => (match ann with
   | .two x y => (match codeE P T callE f a x e m ds with
    | some (.normal, e1, m1, ds1) => codeE P T callE f b y e1 m1 ds1
    | r => r)
   | _ => none)
  | .cond c a b => (match ann with
   | .two x y => (match evE e c with
    | some (.bool true) => codeE P T callE f a x e m ds
    | some (.bool false) => codeE P T callE f b y e m ds
    | _ => none)
   | _ => none)
  | .block id c => (match ann with
   | .one x => (match codeE P T callE f c x e m ds with
    | some (.exit i, e1, m1, ds1) => (match Nat.beq i id with | true => some (.normal, e1, m1, ds1) | false => some (.exit i, e1, m1, ds1))
    | r => r)
   | _ => none)
  | .loop c => (match ann with
   | .one x => (match codeE P T callE f c x e m ds with
    | some (.normal, e1, m1, ds1) => codeE P T callE f (.loop c) (.one x) e1 m1 ds1
    | r => r)
   | _ => none)
  | _ => none
section
variable {ρ ρ' : Rn} {m m' : AMem} {w w' w0 : World}
inductive DR (ρ : Rn) : DfL → List Deferred → Prop
 | nil : DR ρ [] []
 | cons {g : Nat} {us : List Value} {vs cap : Array Value} {l : DfL} {r : List Deferred} : LR ρ us (vs ++ cap).toList → DR ρ l r → DR ρ ((g, us) :: l) ({ target := .fn (.func g) cap, args := vs } :: r)
theorem DR.mono {l : DfL} {r : List Deferred} (h : DR ρ l r) (k : Rn.Le ρ ρ') : DR ρ' l r := by
 induction h with
 | nil => exact .nil
 | cons a _ ih => exact .cons (a.mono k) ih
def After (N : Nat) (w0 : World) (ρ : Rn) (m : AMem) (w : World) (x : Exit) (e2 : Env) (m' : AMem) (ds : DfL) : Exit → Act → World → Prop := fun x' a' w' => x' = x ∧ ∃ ρ' e2', Ag N a' e2' ∧ Ev w0 ρ m w ρ' m' w' ∧ ER ρ' e2 e2' ∧ DR ρ' ds a'.defers
theorem After.from {N : Nat} {ρ1 : Rn} {m1 : AMem} {w1 : World} {x : Exit} {e2 : Env} {ds : DfL} (hm : Mem w0 ρ m w) (v : Ev w0 ρ m w ρ1 m1 w1) {x' : Exit} {a' : Act} (h : After N w0 ρ1 m1 w1 x e2 m' ds x' a' w') : After N w0 ρ m w x e2 m' ds x' a' w' := by
 obtain ⟨h1, ρ2, e2', h2, h3, h4⟩ := h
 exact ⟨h1, ρ2, e2', h2, Ev.trans hm v h3, h4⟩
theorem regE_ok {P : Program} {T : Tab} (hT : T.Ok P) {callE : FuncId → List Value → AMem → Option (Value × AMem)} (hc : CallOk P w0 callE) {ops : Array Oper} {n : Nat} {p : Plan} {e e' e2 : Env} {id : Nat} (h : regE P T callE ops n p e m = some (e2, m')) (he : ER ρ e e') (hm : Mem w0 ρ m w) {Q : Post}
  (k : ∀ ρ' e2' w', Ev w0 ρ m w ρ' m' w' → ER ρ' e2 e2' → Q .normal e2' w') : WP P T (.region id ops true) (.anyD n p) Q e' w := by
 unfold regE at h
 split at h
 ·cases h
 rename_i hr
 split at h
 ·rename_i e1 m1 h1
  obtain ⟨L, h1⟩ := anyL_some h1
  simp only [WP]
  rw [hr]; simp only
  have hmd : Mem w0 ρ m w.drew := by
   have hx : Ext w w.drew := (Below.refl _ _).drew
   refine ⟨Below.trans hm.x (hx.mono hm.x.size), hm.dom, hm.cdom, hm.got, fun t o hg hl => ?_, hm.apart⟩
   obtain ⟨a, b, c⟩ := hm.obj t o hg hl
   exact ⟨a, Nat.lt_of_lt_of_le b hx.size, c.mono (Rn.Le.refl ρ) (hm.got t o hg hl) fun _ => hx.block _ b⟩
  have hev : Ev w0 ρ m w ρ m w.drew := ⟨Rn.Le.refl ρ, hmd, Nat.le_refl _, [], rfl, fun _ _ _ o hg hl => ⟨⟨o, hg, hl⟩, rfl⟩⟩
  show ∃ v0, Cel v0 w.drew ∧ _
  refine ⟨stayW ρ m L w.drew, stay_cel (Ev.refl hmd) (fun l e t ht => by
   have : l = [] := by
    have := congrArg List.length e
    rw [List.length_append] at this
    exact List.eq_nil_of_length_eq_zero (by omega)
   rw [this] at ht; exact absurd ht (by simp)), ?_⟩
  exact anyE_ok hT hc hmd p (Ev.refl hmd) he h1 fun ρ1 e1' w1 v1 he1 => opsE_ok hT hc _ h he1 v1.mem fun ρ2 e2' w2 v2 he2 => k ρ2 e2' w2 (Ev.trans hm hev (Ev.trans hmd v1 v2)) he2
 ·cases h
end
end Go.V
