/- A part of the proof: plain forms of functions and laws about them. -/
import Derived.Test.YtnmldggopnbclaaGreatDoorGrliAn
namespace Go.V
open Go.RowKit (Below)
section
variable {ρ : Rn} {m : AMem} {w : World}
def cutE (o : Option Addr) (len c l h sz av : Nat) : Option Value :=
 match Nat.ble l h && ((Nat.ble h len || Nat.ble h av) || (Nat.blt c symB && Nat.ble h c)) with
 | false => none
 | true => match l with
  | 0 => some (.slice o h c)
  | l + 1 => match subC c (l + 1) with
   | none => none
   | some c' => match Nat.blt c symB with
    | true => some (.slice (if c = l + 1 then o else o.map (·.add ((l + 1) * sz))) (h - (l + 1)) c')
    | false => match Nat.blt (l + 1) len || Nat.blt (l + 1) av with
     | true => some (.slice (o.map (·.add ((l + 1) * sz))) (h - (l + 1)) c')
     | false => match o with | some ⟨t, f, none⟩ => (match Nat.beq h (l + 1) with | true => some (.slice (some ⟨t + bigT, f + (l + 1) * sz, some 1⟩) 0 c') | false => none) | _ => none
theorem map_add (ρ : Rn) (o : Option Addr) (n : Nat) : (o.map ρ.a).map (·.add n) = (o.map (·.add n)).map ρ.a := by
 cases o with
 | none => rfl
 | some p => simp [Rn.a_add]
theorem cutE_ok {o : Option Addr} {len c l h sz av : Nat} {u : Value} (hu : cutE o len c l h sz av = some u) (hlc : len ≤ ρ.c c) (hav : av ≤ ρ.c c) (hod : ρ.oD o) (hcd : ρ.cD c) {F : Value → Prop} (k : ∀ v, VR ρ u v → F v) :
  (l ≤ h ∧ h ≤ ρ.c c) ∧ F (.slice (if ρ.c c = l then o.map ρ.a else (o.map ρ.a).map (·.add (l * sz))) (h - l) (ρ.c c - l)) := by
 unfold cutE at hu
 split at hu
 ·cases hu
 rename_i hb
 simp only [Bool.and_eq_true, Bool.or_eq_true] at hb
 obtain ⟨h1, h2⟩ := hb
 have h1 := Nat.le_of_ble_eq_true h1
 have h2 : h ≤ ρ.c c := by
  rcases h2 with (h2 | h2) | ⟨h2, h3⟩
  ·exact Nat.le_trans (Nat.le_of_ble_eq_true h2) hlc
  ·exact Nat.le_trans (Nat.le_of_ble_eq_true h2) hav
  ·rw [ρ.c_lit h2]; exact Nat.le_of_ble_eq_true h3
 refine ⟨⟨h1, h2⟩, ?_⟩
 cases l with
 | zero =>
  have hu : some (Value.slice o h c) = some u := hu
  cases hu
  have e : (if ρ.c c = 0 then o.map ρ.a else (o.map ρ.a).map (·.add (0 * sz))) = o.map ρ.a := by
   split
   ·rfl
   ·rw [Nat.zero_mul]; cases o <;> rfl
  rw [e, Nat.sub_zero, Nat.sub_zero]
  exact k _ (.slice o h c h2 hod hcd)
 | succ l =>
  simp only at hu
  split at hu
  ·cases hu
  rename_i c' hc'
  have ec := subC_ok ρ hc'
  split at hu
  ·rename_i hlit
   cases hu
   have hle : h - (l + 1) ≤ ρ.c c' := by rw [ec]; omega
   have v := VR.slice (ρ := ρ) (if c = l + 1 then o else o.map (·.add ((l + 1) * sz))) (h - (l + 1)) c' hle (by split; exact hod; exact Rn.oD_map hod _) (subC_cD hc' hcd)
   have r := k _ v
   rw [ec] at r
   rw [ρ.c_lit hlit] at r ⊢
   split
   ·rename_i e; rw [if_pos e] at r; exact r
   ·rename_i e; rw [if_neg e, ← map_add] at r; exact r
  ·split at hu
   ·rename_i hlt
    have hlt : l + 1 < ρ.c c := by
     rw [Bool.or_eq_true] at hlt
     rcases hlt with hlt | hlt
     ·exact Nat.lt_of_lt_of_le (Nat.le_of_ble_eq_true hlt) hlc
     ·exact Nat.lt_of_lt_of_le (Nat.le_of_ble_eq_true hlt) hav
    cases hu
    have hle : h - (l + 1) ≤ ρ.c c' := by rw [ec]; omega
    have r := k _ (VR.slice (ρ := ρ) (o.map (·.add ((l + 1) * sz))) (h - (l + 1)) c' hle (Rn.oD_map hod _) (subC_cD hc' hcd))
    rw [ec, ← map_add] at r
    rw [if_neg (by omega)]; exact r
   ·split at hu
    ·rename_i tk f
     split at hu
     ·rename_i he
      have he := Nat.eq_of_beq_eq_true he
      cases hu
      have key : ∃ a, (if ρ.c c = l + 1 then (some ⟨tk, f, none⟩ : Option Addr).map ρ.a else ((some ⟨tk, f, none⟩ : Option Addr).map ρ.a).map (·.add ((l + 1) * sz))) = some a ∧ (ρ.c c' = 0 ∨ a = ρ.a ⟨tk, f + (l + 1) * sz, none⟩) := by
       split
       ·rename_i e; exact ⟨_, rfl, .inl (by rw [ec, e]; omega)⟩
       ·refine ⟨_, rfl, .inr ?_⟩
        show (ρ.a ⟨tk, f, none⟩).add ((l + 1) * sz) = _
        rw [Rn.a_add, add_mk]
      obtain ⟨a, e, ha⟩ := key
      rw [e, he, Nat.sub_self]
      have := k _ (VR.tail (ρ := ρ) tk (f + (l + 1) * sz) c' a ha (hod _ rfl) (subC_cD hc' hcd))
      rw [ec] at this; exact this
     ·cases hu
    ·cases hu
def sliceE (T : Tab) (t : Nat) (x : Value) (lo hi : Option Value) (av : Nat) : Option Value :=
 match T.t t with
 | none => none
 | some inf => match x with
  | .string s => (match inf.sh with
   | .one .str => (match bndE lo 0, bndE hi s.size with
    | some l, some h => (match Nat.ble l h && Nat.ble h s.size with | true => some (.string (s.extract l h)) | false => none)
    | _, _ => none)
   | _ => none)
  | .slice o len c => (match o with
   | some ⟨_, _, some _⟩ => none
   | _ => (match inf.idx with
    | some (none, sz) => (match bndE lo 0, bndE hi len with
     | some l, some h => cutE o len c l h sz av
     | _, _ => none)
    | _ => none))
  | _ => none
theorem sliceE_ok {T : Tab} {t av : Nat} {x x' u : Value} {lo lo' hi hi' : Option Value} (h : sliceE T t x lo hi av = some u) (hav : ∀ o l c, x = .slice o l c → av ≤ ρ.c c) (rx : VR ρ x x') (r1 : OR ρ lo lo') (r2 : OR ρ hi hi') {F : Value → Prop} (k : ∀ v, VR ρ u v → F v) : sliceK T t x' lo' hi' F := by
 unfold sliceE at h
 split at h
 ·cases h
 rename_i inf hi0
 unfold sliceK
 rw [hi0]; simp only
 split at h
 ·cases rx
  split at h
  ·rename_i hs
   split at h
   ·rename_i l hh e1 e2
    split at h
    ·rename_i hc
     simp only [Bool.and_eq_true] at hc
     cases h
     rw [hs]; simp only
     exact bndE_ok e1 r1 (bndE_ok e2 r2 ⟨⟨Nat.le_of_ble_eq_true hc.1, Nat.le_of_ble_eq_true hc.2⟩, k _ (.string _)⟩)
    ·cases h
   ·cases h
  ·cases h
 ·rename_i o len c
  split at h
  ·cases h
  rename_i hno
  split at h
  ·rename_i sz hidx
   split at h
   ·rename_i l hh e1 e2
    cases rx with
    | empty a c => exact absurd rfl (hno _ _ _)
    | tail => exact absurd rfl (hno _ _ _)
    | slice _ _ _ hlc hod hcd =>
     have fin := cutE_ok (ρ := ρ) h hlc (hav _ _ _ rfl) hod hcd k
     rw [hidx]
     split
     ·rename_i hq; cases hq
     ·rename_i hq1 hq2
      cases hq1; cases hq2
      exact bndE_ok e1 r1 (bndE_ok e2 r2 fin)
     ·rename_i hq
      exact absurd rfl (hq _ _ _ _ rfl)
   ·cases h
  ·cases h
 ·cases h
end
end Go.V
