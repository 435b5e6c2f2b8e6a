/- A part of the proof: plain forms of functions and laws about them. -/
import Derived.Test.YtnmldggopnbclaaGreatDoorGrliBw
import Derived.Test.YtnmldggopnbclaaGreatDoorProg
import Derived.Recover
import Derived.WalkKit
namespace Go.Proofs.YtnmldggopnbclaaGreatDoor
open Go Go.V Go.Proofs
open Go.RowKit (Below)
theorem idle_one (P : Program) (id : Nat) (ops : Array Oper) {Q : Exit → Act → List Frame → World → Prop} {a a' : Act} {c₀ : Frame} {cs : List Frame} {w : World} (h : ∀ Q : Exit → Act → List Frame → World → Prop, Q .normal a' (c₀ :: cs) w → wpOpsS P ops Q (List.range ops.size) a (c₀ :: cs) w) {y : Code}
  (k : y.wpS P Q a' (c₀ :: cs) w) : (Code.seq (.region id ops false) y).wpS P Q a (c₀ :: cs) w :=
 wpS_seq (wpS_region (h _ k))
def tms (p q : Addr) (a b c d : Value) : Array Value := #[.pointer (some p), .pointer (some q), a, undef, undef, b, c, d, undef, undef, undef, undef, undef, undef, undef, undef, undef]
theorem parse_idle (p q : Addr) (w : World) :
  CallsD Tryz.prog 27 #[.pointer (some p), .pointer (some q)] .returning w fun e u' w' => e = .returned (.tuple #[]) ∧ u' = .returning ∧ w' = w := by
 refine callsD_of_wpS Tryz.func27 rfl fun c₀ cs hu => ?_
 rw [Tryz.ntmps27]
 have e0 : (#[Value.pointer (some p), .pointer (some q)] ++ Array.replicate (17 - 2) undef : Array Value) = tms p q undef undef undef undef := by
  apply Array.ext'; simp [tms, List.replicate]
 change Code.wpS _ _ _ ({ tmps := #[Value.pointer (some p), .pointer (some q)] ++ Array.replicate (17 - 2) undef, defers := [] } : Act) _ _
 rw [e0]
 refine idle_one _ _ _ (a' := { tmps := tms p q .nilIface .nilIface undef undef, defers := [] }) (fun Q hQ => ?_) ?_
 ·simp [wpOpsS, go_sem, recoverD, hu, tms] at hQ ⊢
  exact hQ
 refine idle_one _ _ _ (a' := { tmps := tms p q .nilIface .nilIface .nilIface (.bool false), defers := [] }) (fun Q hQ => ?_) ?_
 ·simp [wpOpsS, go_sem, tms] at hQ ⊢
  exact hQ
 refine wpS_cond (t := false) rfl ?_
 simp only [Bool.false_eq_true, if_false]
 refine wpS_of_wp (wp_skip ?_)
 refine ⟨rfl, .returning, by cases c₀; simp at hu; subst hu; rfl, .tuple #[], ?_, rfl, rfl, rfl⟩
 simp [results, Tryz.results27]
def knD (g : FuncId) (us : List Value) (m : AMem) : Option (Value × AMem) :=
 match us with
 | [.pointer (some _), .pointer (some _)] => match Nat.beq g 27 with | true => some (.tuple #[], m) | false => none
 | _ => none
def knC (g : FuncId) (us : List Value) (m : AMem) : Option (Value × AMem) :=
 match us with
 | [.string s, .string ⟨⟨[c]⟩⟩] => match Nat.beq g 75 with | true => some (.int .i64 (Lib.countByte s.data.toList c), m) | false => none
 | _ => none
def knP : Bool → FuncId → List Value → AMem → Option (Value × AMem)
 | false => knC
 | true => knD
theorem knC_ok {w0 : World} : CallOk Tryz.prog w0 knC := fun g us m u m' h => by
 unfold knC at h
 split at h
 ·rename_i s c
  split at h
  ·rename_i hg
   have hg := Nat.eq_of_beq_eq_true hg
   subst hg
   cases h
   refine ⟨Tryz.call75, fun ρ vs w r hm => ?_⟩
   obtain ⟨v1, vs1, rfl, r1, r2⟩ := r.inv_cons
   obtain ⟨v2, vs2, rfl, r3, r4⟩ := r2.inv_cons
   have : vs2 = [] := by have := r4.len; exact List.length_eq_zero_iff.1 this.symm
   subst this
   cases r1; cases r3
   refine Calls.mono (Any.strings_Count_one countLay s c w) ?_
   rintro en w' ⟨rfl, rfl⟩
   exact ⟨ρ, _, Ev.refl hm, VR.int _ _, rfl⟩
  ·cases h
 ·cases h
theorem knD_ok {w0 : World} : CallOkR Tryz.prog w0 knD := fun g us m u m' h => by
 unfold knD at h
 split at h
 ·split at h
  ·rename_i hg
   have hg := Nat.eq_of_beq_eq_true hg
   subst hg
   cases h
   refine ⟨Tryz.call27, fun ρ vs w r hm => ?_⟩
   obtain ⟨v1, vs1, rfl, r1, r2⟩ := r.inv_cons
   obtain ⟨v2, vs2, rfl, r3, r4⟩ := r2.inv_cons
   have : vs2 = [] := by have := r4.len; exact List.length_eq_zero_iff.1 this.symm
   subst this
   cases r1; cases r3
   refine CallsD.mono (parse_idle _ _ w) ?_
   rintro en um' w' ⟨rfl, rfl, rfl⟩
   exact ⟨rfl, ρ, .tuple #[], Ev.refl hm, VR.tupleL .nil, rfl⟩
  ·cases h
 ·cases h
end Go.Proofs.YtnmldggopnbclaaGreatDoor
