/- A part of the proof: plain forms of functions and laws about them. -/
import Derived.Test.YtggfnakhmjkoeaaEntaB
import Derived.Deep.Slices
import Derived.OpenShut
import Derived.Lib.SmallJoins
namespace Go.Proofs.Ytggfnakhmjkoeaa
open Go Go.V Go.Proofs
open Go.RowKit (Below)

def getL (l : List Dm) (x : Int) : Dm := l.getD x.toNat []
def bsOf (p : PropS) (l : List Dm) : List Dm := p.vars.map (getL l)
def passP (p : PropS) (l : List Dm) (i : Nat) (v : Int) : Bool := passS (kdOf p.kind) p.coefs p.n (bsOf p l) i v
/-- the domains of the first j places are emptied -/
def emptied (vars : List Int) (l : List Dm) : Nat → List Dm
  | 0 => l
  | j + 1 => (emptied vars l j).set (vars.getD j 0).toNat []
/-- the first j places are narrowed -/
def stepsK (pass : Nat → Int → Bool) (vars : List Int) (l : List Dm) : Nat → List Dm
  | 0 => l
  | j + 1 => (stepsK pass vars l j).set (vars.getD j 0).toNat (rngs (fun v => inD (getL (stepsK pass vars l j) (vars.getD j 0)) v && pass j v) 1001)
theorem vals_below (n : Nat) : ∃ l : List Nat, l.length = n ∧ (∀ v (h : v < l.length), l[v] = v) ∧ ∀ v, v ∈ l ↔ v < n :=
  ⟨List.range n, List.length_range, fun _ h => List.getElem_range h, fun _ => List.mem_range⟩
/-- the values 0 to 1000 -/
noncomputable def allV : List Nat := (vals_below 1001).choose
theorem allV_len : allV.length = 1001 := (vals_below 1001).choose_spec.1
theorem allV_get {v : Nat} (h : v < allV.length) : allV[v] = v := (vals_below 1001).choose_spec.2.1 v h
theorem mem_allV {v : Nat} : v ∈ allV ↔ v < 1001 := (vals_below 1001).choose_spec.2.2 v
noncomputable def lessK (pass : Nat → Int → Bool) (vars : List Int) (l : List Dm) : Nat → Bool
  | 0 => false
  | j + 1 => lessK pass vars l j || allV.any fun v => inD (getL (stepsK pass vars l j) (vars.getD j 0)) v && !pass j v
def hasEmpty (p : PropS) (l : List Dm) : Bool := p.vars.any fun x => decide (getL l x = [])
def keepS (p : PropS) (l : List Dm) : List Dm :=
  if hasEmpty p l then emptied p.vars l p.vars.length else stepsK (passP p l) p.vars l p.vars.length
noncomputable def lessS (p : PropS) (l : List Dm) : Bool :=
  if hasEmpty p l then p.vars.any (fun x => decide (getL l x ≠ [])) else lessK (passP p l) p.vars l p.vars.length

theorem emptied_len (vars : List Int) (l : List Dm) : ∀ j, (emptied vars l j).length = l.length
  | 0 => rfl
  | j + 1 => by rw [emptied, List.length_set, emptied_len vars l j]
theorem stepsK_len (pass : Nat → Int → Bool) (vars : List Int) (l : List Dm) : ∀ j, (stepsK pass vars l j).length = l.length
  | 0 => rfl
  | j + 1 => by rw [stepsK, List.length_set, stepsK_len pass vars l j]
theorem keepS_len (p : PropS) (l : List Dm) : (keepS p l).length = l.length := by
  unfold keepS; split
  · exact emptied_len _ _ _
  · exact stepsK_len _ _ _ _
theorem vd_nil : VD [] := ⟨by simp, by simp⟩
theorem mem_set_of {α : Type} {l : List α} {n : Nat} {a x : α} (h : x ∈ l.set n a) : x ∈ l ∨ x = a := List.mem_or_eq_of_mem_set h
theorem emptied_vd (vars : List Int) {l : List Dm} (h : ∀ d ∈ l, VD d) : ∀ j, ∀ d ∈ emptied vars l j, VD d
  | 0 => h
  | j + 1 => fun d hd => by
    rw [emptied] at hd
    rcases mem_set_of hd with hd | rfl
    · exact emptied_vd vars h j d hd
    · exact vd_nil
theorem stepsK_vd (pass : Nat → Int → Bool) (vars : List Int) {l : List Dm} (h : ∀ d ∈ l, VD d) : ∀ j, ∀ d ∈ stepsK pass vars l j, VD d
  | 0 => h
  | j + 1 => fun d hd => by
    rw [stepsK] at hd
    rcases mem_set_of hd with hd | rfl
    · exact stepsK_vd pass vars h j d hd
    · exact (rngs_ok _ 1001 (by omega)).1
theorem keepS_vd (p : PropS) {l : List Dm} (h : ∀ d ∈ l, VD d) : ∀ d ∈ keepS p l, VD d := by
  unfold keepS; split
  · exact emptied_vd _ h _
  · exact stepsK_vd _ _ h _
theorem getL_vd {l : List Dm} (h : ∀ d ∈ l, VD d) (x : Int) : VD (getL l x) := by
  unfold getL
  rcases Nat.lt_or_ge x.toNat l.length with hx | hx
  · rw [getD_get hx]; exact h _ (List.getElem_mem _)
  · rw [List.getD_eq_getElem?_getD, List.getElem?_eq_none hx]; exact vd_nil

/-! ### A domain is its values -/
theorem vd_ext : ∀ (d e : Dm), VD d → VD e → (∀ v, inD d v = inD e v) → d = e
  | [], [], _, _, _ => rfl
  | [], (a, b) :: e, _, he, h => by
    have := he.all (a, b) List.mem_cons_self
    have h1 := h a
    simp only [inD, List.any_nil, List.any_cons, inR] at h1
    simp only at this
    rw [decide_eq_true (show a ≤ a by omega), decide_eq_true (show a ≤ b by omega)] at h1
    simp at h1
  | (a, b) :: d, [], hd, _, h => by
    have := hd.all (a, b) List.mem_cons_self
    have h1 := h a
    simp only [inD, List.any_nil, List.any_cons, inR] at h1
    simp only at this
    rw [decide_eq_true (show a ≤ a by omega), decide_eq_true (show a ≤ b by omega)] at h1
    simp at h1
  | (a, b) :: d, (a', b') :: e, hd, he, h => by
    have ha := hd.all (a, b) List.mem_cons_self
    have ha' := he.all (a', b') List.mem_cons_self
    simp only at ha ha'
    have pd := List.pairwise_cons.1 hd.pw
    have pe := List.pairwise_cons.1 he.pw
    have ind : ∀ v, inD ((a, b) :: d) v = true ↔ (a ≤ v ∧ v ≤ b) ∨ inD d v = true := fun v => by simp [inD, inR]
    have ine : ∀ v, inD ((a', b') :: e) v = true ↔ (a' ≤ v ∧ v ≤ b') ∨ inD e v = true := fun v => by simp [inD, inR]
    have low : ∀ v, inD d v = true → b + 2 ≤ v := fun v hv => by
      simp only [inD, List.any_eq_true, inR, Bool.and_eq_true, decide_eq_true_eq] at hv
      obtain ⟨q, hq, h1, _⟩ := hv
      have := pd.1 q hq; simp only at this; omega
    have lowe : ∀ v, inD e v = true → b' + 2 ≤ v := fun v hv => by
      simp only [inD, List.any_eq_true, inR, Bool.and_eq_true, decide_eq_true_eq] at hv
      obtain ⟨q, hq, h1, _⟩ := hv
      have := pe.1 q hq; simp only at this; omega
    have iff : ∀ v, ((a ≤ v ∧ v ≤ b) ∨ inD d v = true) ↔ ((a' ≤ v ∧ v ≤ b') ∨ inD e v = true) := fun v => by rw [← ind, ← ine, h]
    have haa : a = a' := by
      have h1 := (iff a).1 (.inl ⟨by omega, by omega⟩)
      have h2 := (iff a').2 (.inl ⟨by omega, by omega⟩)
      have h3 : a' ≤ a := h1.elim (fun x => x.1) (fun x => by have := lowe a x; omega)
      have h4 : a ≤ a' := h2.elim (fun x => x.1) (fun x => by have := low a' x; omega)
      omega
    subst haa
    have hbb : b = b' := by
      rcases Int.lt_trichotomy b b' with hlt | heq | hgt
      · have h1 := (iff (b + 1)).2 (.inl ⟨by omega, by omega⟩)
        rcases h1 with h1 | h1
        · omega
        · have := low _ h1; omega
      · exact heq
      · have h1 := (iff (b' + 1)).1 (.inl ⟨by omega, by omega⟩)
        rcases h1 with h1 | h1
        · omega
        · have := lowe _ h1; omega
    subst hbb
    congr 1
    refine vd_ext d e hd.tail he.tail fun v => ?_
    rw [Bool.eq_iff_iff]
    constructor
    · intro hv
      have := low v hv
      exact ((iff v).1 (.inr hv)).elim (fun x => by omega) id
    · intro hv
      have := lowe v hv
      exact ((iff v).2 (.inr hv)).elim (fun x => by omega) id

theorem inD_rngs (f : Nat → Bool) (v : Int) : inD (rngs f 1001) v = (decide (0 ≤ v ∧ v ≤ 1000) && f v.toNat) := by
  obtain ⟨h1, _, h3⟩ := rngs_ok f 1001 (by omega)
  by_cases hv : 0 ≤ v ∧ v ≤ 1000
  · have := h3 v.toNat
    rw [show ((v.toNat : Nat) : Int) = v by omega] at this
    rw [this, decide_eq_true hv, decide_eq_true (by omega)]
  · rw [decide_eq_false hv, Bool.false_and, Bool.eq_false_iff]
    exact fun hh => hv (h1.bound hh)
theorem rngs_self {d : Dm} (h : VD d) : rngs (fun v => inD d v) 1001 = d := by
  refine vd_ext _ _ (rngs_ok _ 1001 (by omega)).1 h fun v => ?_
  rw [inD_rngs]
  by_cases hv : 0 ≤ v ∧ v ≤ 1000
  · rw [decide_eq_true hv, Bool.true_and, show ((v.toNat : Nat) : Int) = v by omega]
  · rw [decide_eq_false hv, Bool.false_and, eq_comm, Bool.eq_false_iff]
    exact fun hh => hv (h.bound hh)
theorem inD_empty {d : Dm} (h : VD d) : d = [] ↔ ∀ v, inD d v = false := by
  constructor
  · rintro rfl; intro v; rfl
  · intro hh
    exact vd_ext d [] h vd_nil fun v => by rw [hh v]; rfl
end Go.Proofs.Ytggfnakhmjkoeaa

namespace Go.Proofs.Ytggfnakhmjkoeaa
open Go Go.V Go.Proofs
open Go.RowKit (Below)
/-! manystrand/domain.keep -/
def N51 (s1 : ByteArray) (a2 : Option Addr) (l2 : Nat) (c2 : Nat) (a3 : Option Addr) (l3 : Nat) (c3 : Nat) (x4 : Int) (a5 : Option Addr) (l5 : Nat) (c5 : Nat) (K : Option Addr → Nat → Nat → Bool → World → Prop) (w : World) : Prop :=
  AllocK w (#[(.string s1), (.slice a2 l2 c2), (.slice a3 l3 c3), (.int .i64 x4)]) 24 fun b6 w7 =>
  Calls Try.prog 57 #[(.slice a5 l5 c5)] w7 fun e10 w9 =>
  ∃ (a8 : Option Addr), ∃ (l8 : Nat), ∃ (c8 : Nat), e10 = .returned (.slice a8 l8 c8) ∧
  (∃ (a11 : Option Addr) (l11 : Nat) (c11 : Nat), w9.cell? (b6.add 1) = some (.slice a11 l11 c11) ∧
    ((0 ≤ ((l11 : Nat) : Int) ∧ ((l11 : Nat) : Int) ≤ (l11 : Nat) ∧ ((24 : Nat) : Int) * (l11 : Nat) ≤ 281474976710656 ∧ ((l11 : Nat) : Int) ≤ 9223372036854775807) ∧
      AllocK w9 (madeCells (#[.int .i64 0, .int .i64 0, .pointer none]) (((l11 : Nat) : Int).toNat * 3)) 95 fun b12 w13 =>
      ∃ (a14 : Option Addr) (l14 : Nat) (c14 : Nat), w13.cell? (b6.add 1) = some (.slice a14 l14 c14) ∧
      (∃ (I15 : Int → World → Prop) (μ16 : Int → World → Nat),
        (I15 0 w13 ∧ True) ∧
        ∀ (w17 : World) (x18 : Int), I15 x18 w17 →
        BoolK (decide ((x18 : Int) < (l14 : Nat)))
        ((0 ≤ (x18 : Int) ∧ (x18 : Int) < (l14 : Nat)) ∧
          AddrK a14 fun b19 =>
          ∃ (x20 : Int), w17.cell? (b19.add ((x18 : Int).toNat * 1)) = some (.int .i64 x20) ∧
          ((0 ≤ (x20 : Int) ∧ (x20 : Int) < (l5 : Nat)) ∧
            AddrK a5 fun b21 =>
            ∃ (a22 : Option Addr) (l22 : Nat) (c22 : Nat), w17.cell? (b21.add ((x20 : Int).toNat * 1)) = some (.slice a22 l22 c22) ∧
            (BoolK (((l22 : Nat) : Int) == 0)
              (∃ (a23 : Option Addr) (l23 : Nat) (c23 : Nat), w17.cell? (b6.add 1) = some (.slice a23 l23 c23) ∧
                (∃ (I24 : Bool → Int → World → Prop) (μ25 : Bool → Int → World → Nat),
                  (I24 false 0 w17 ∧ True) ∧
                  ∀ (w26 : World) (p27 : Bool) (x28 : Int), I24 p27 x28 w26 →
                  BoolK (decide ((x28 : Int) < (l23 : Nat)))
                  ((0 ≤ (x28 : Int) ∧ (x28 : Int) < (l23 : Nat)) ∧
                    AddrK a23 fun b29 =>
                    ∃ (x30 : Int), w26.cell? (b29.add ((x28 : Int).toNat * 1)) = some (.int .i64 x30) ∧
                    (BoolK p27
                      ((0 ≤ (x30 : Int) ∧ (x30 : Int) < (l8 : Nat)) ∧
                        AddrK a8 fun b31 =>
                        SetK w26 (b31.add ((x30 : Int).toNat * 1)) (.slice none 0 0) fun w32 =>
                        I24 true (IntKind.wrap .i64 (x28 + 1)) w32 ∧ μ25 true (IntKind.wrap .i64 (x28 + 1)) w32 < μ25 p27 x28 w26)
                      ((0 ≤ (x30 : Int) ∧ (x30 : Int) < (l5 : Nat)) ∧
                        AddrK a5 fun b33 =>
                        ∃ (a34 : Option Addr) (l34 : Nat) (c34 : Nat), w26.cell? (b33.add ((x30 : Int).toNat * 1)) = some (.slice a34 l34 c34) ∧
                        ((0 ≤ (x30 : Int) ∧ (x30 : Int) < (l8 : Nat)) ∧
                          AddrK a8 fun b35 =>
                          SetK w26 (b35.add ((x30 : Int).toNat * 1)) (.slice none 0 0) fun w36 =>
                          I24 (decide (((l34 : Nat) : Int) > 0)) (IntKind.wrap .i64 (x28 + 1)) w36 ∧ μ25 (decide (((l34 : Nat) : Int) > 0)) (IntKind.wrap .i64 (x28 + 1)) w36 < μ25 p27 x28 w26))))
                  (K a8 l8 c8 p27 w26)))
              (DrewK w17 fun w37 =>
                (0 ≤ (0 : Int) ∧ (0 : Int) < (l22 : Nat)) ∧
                AddrK a22 fun b38 =>
                (0 ≤ (0 : Int) ∧ (0 : Int) < (2 : Nat)) ∧
                ∃ (x39 : Int), w37.cell? ((b38.add ((0 : Int).toNat * 2)).add ((0 : Int).toNat * 1)) = some (.int .i64 x39) ∧
                ((0 ≤ (IntKind.wrap .i64 ((l22 : Nat) - 1) : Int) ∧ (IntKind.wrap .i64 ((l22 : Nat) - 1) : Int) < (l22 : Nat)) ∧
                  AddrK a22 fun b40 =>
                  (0 ≤ (1 : Int) ∧ (1 : Int) < (2 : Nat)) ∧
                  ∃ (x41 : Int), w37.cell? ((b40.add ((IntKind.wrap .i64 ((l22 : Nat) - 1) : Int).toNat * 2)).add ((1 : Int).toNat * 1)) = some (.int .i64 x41) ∧
                  (Calls Try.prog 81 #[(.slice a22 l22 c22)] w37 fun e44 w43 =>
                    ∃ (o42 : Option Addr), e44 = .returned (.pointer o42) ∧
                    (Below w37.heap.size w37 w43 ∧
                      ((0 ≤ (x18 : Int) ∧ (x18 : Int) < (((l11 : Nat) : Int).toNat : Nat)) ∧
                        SetK w43 ((b12.add ((x18 : Int).toNat * 3)).add 0) (.int .i64 x39) fun w45 =>
                        SetK w45 ((b12.add ((x18 : Int).toNat * 3)).add 1) (.int .i64 x41) fun w46 =>
                        SetK w46 ((b12.add ((x18 : Int).toNat * 3)).add 2) (.pointer o42) fun w47 =>
                        I15 (IntKind.wrap .i64 (x18 + 1)) w47 ∧ μ16 (IntKind.wrap .i64 (x18 + 1)) w47 < μ16 x18 w17))))))))
        (∃ (a48 : Option Addr) (l48 : Nat) (c48 : Nat), w17.cell? (b6.add 1) = some (.slice a48 l48 c48) ∧
          (∃ (I49 : Bool → Int → World → Prop) (μ50 : Bool → Int → World → Nat),
            (I49 false 0 w17 ∧ True) ∧
            ∀ (w51 : World) (p52 : Bool) (x53 : Int), I49 p52 x53 w51 →
            BoolK (decide ((x53 : Int) < (l48 : Nat)))
            ((0 ≤ (x53 : Int) ∧ (x53 : Int) < (l48 : Nat)) ∧
              AddrK a48 fun b54 =>
              ∃ (x55 : Int), w51.cell? (b54.add ((x53 : Int).toNat * 1)) = some (.int .i64 x55) ∧
              ((0 ≤ (x55 : Int) ∧ (x55 : Int) < (l8 : Nat)) ∧
                AddrK a8 fun b56 =>
                ∃ (a57 : Option Addr) (l57 : Nat) (c57 : Nat), w51.cell? (b56.add ((x55 : Int).toNat * 1)) = some (.slice a57 l57 c57) ∧
                (Calls Try.prog 81 #[(.slice a57 l57 c57)] w51 fun e60 w59 =>
                  ∃ (o58 : Option Addr), e60 = .returned (.pointer o58) ∧
                  (∃ (I61 : Bool → Int → World → Prop) (μ62 : Bool → Int → World → Nat),
                    (I61 p52 0 w59 ∧ True) ∧
                    ∀ (w63 : World) (p64 : Bool) (x65 : Int), I61 p64 x65 w63 →
                    BoolK (decide ((x65 : Int) < 1001))
                    (AddrK o58 fun b66 =>
                      (0 ≤ (x65 : Int) ∧ (x65 : Int) < (1001 : Nat)) ∧
                      ∃ (p67 : Bool), w63.cell? (b66.add ((x65 : Int).toNat * 1)) = some (.bool p67) ∧
                      (BoolK p67
                        (∃ (s68 : ByteArray), w63.cell? (b6.add 0) = some (.string s68) ∧
                          (∃ (a69 : Option Addr) (l69 : Nat) (c69 : Nat), w63.cell? (b6.add 1) = some (.slice a69 l69 c69) ∧
                            (∃ (a70 : Option Addr) (l70 : Nat) (c70 : Nat), w63.cell? (b6.add 2) = some (.slice a70 l70 c70) ∧
                              (∃ (x71 : Int), w63.cell? (b6.add 3) = some (.int .i64 x71) ∧
                                (Calls Try.prog 82 #[(.agg #[(.string s68), (.slice a69 l69 c69), (.slice a70 l70 c70), (.int .i64 x71)]), (.slice (some b12) (((l11 : Nat) : Int).toNat) (((l11 : Nat) : Int).toNat)), (.int .i64 x53), (.int .i64 x65)] w63 fun e74 w73 =>
                                  ∃ (p72 : Bool), e74 = .returned (.bool p72) ∧
                                  (BoolK (!p72)
                                    (AddrK o58 fun b75 =>
                                      (0 ≤ (x65 : Int) ∧ (x65 : Int) < (1001 : Nat)) ∧
                                      SetK w73 (b75.add ((x65 : Int).toNat * 1)) (.bool false) fun w76 =>
                                      I61 true (IntKind.wrap .i64 (x65 + 1)) w76 ∧ μ62 true (IntKind.wrap .i64 (x65 + 1)) w76 < μ62 p64 x65 w63)
                                    (I61 p64 (IntKind.wrap .i64 (x65 + 1)) w73 ∧ μ62 p64 (IntKind.wrap .i64 (x65 + 1)) w73 < μ62 p64 x65 w63)))))))
                        (I61 p64 (IntKind.wrap .i64 (x65 + 1)) w63 ∧ μ62 p64 (IntKind.wrap .i64 (x65 + 1)) w63 < μ62 p64 x65 w63)))
                    (Calls Try.prog 65 #[(.pointer o58)] w63 fun e79 w78 =>
                      ∃ (a77 : Option Addr), ∃ (l77 : Nat), ∃ (c77 : Nat), e79 = .returned (.slice a77 l77 c77) ∧
                      ((0 ≤ (x55 : Int) ∧ (x55 : Int) < (l8 : Nat)) ∧
                        AddrK a8 fun b80 =>
                        SetK w78 (b80.add ((x55 : Int).toNat * 1)) (.slice a77 l77 c77) fun w81 =>
                        I49 p64 (IntKind.wrap .i64 (x53 + 1)) w81 ∧ μ50 p64 (IntKind.wrap .i64 (x53 + 1)) w81 < μ50 p52 x53 w51))))))
            (K a8 l8 c8 p52 w51))))))
def ann51 : Ann := (.two .nil (.two .nil (.two .nil (.two (.two .nil (.one (.loop [(28, (.one (.int .i64)))] [1, 2, 6, 7, 26, 27] (.two .nil (.two (.two .nil .nil) (.two (.one (.two .nil (.two .nil (.two (.two .nil (.two (.two .nil (.two (.two .nil (.one (.loop [(11, (.one .bool)), (43, (.one (.int .i64)))] [1, 6, 41, 42] (.two .nil (.two (.two .nil .nil) (.two (.one (.two .nil (.two .nil .nil))) .nil)))))) (.two .nil .nil))) .nil)) (.any 17 (.take 0 (.take 1 (.take 2 (.take 3 (.take 4 (.take 5 (.take 6 (.take 7 (.take 8 (.take 9 (.take 10 (.take 11 (.take 12 (.take 13 (.one 14 (.take 15 (.take 16 .done)))))))))))))))))))))) .nil)))))) (.two .nil (.two (.two .nil (.one (.loop [(14, (.one .bool)), (83, (.one (.int .i64)))] [2, 6, 7, 81, 82] (.two .nil (.two (.two .nil .nil) (.two (.one (.two .nil (.two .nil (.two (.two .nil (.one (.loop [(14, (.one .bool)), (93, (.one (.int .i64)))] [2, 6, 7, 15, 16, 17, 81, 82, 83] (.two .nil (.two (.two .nil .nil) (.two (.one (.two .nil (.two .nil (.two (.two .nil .nil) .nil)))) .nil)))))) .nil)))) .nil)))))) (.two .nil .nil)))))))
noncomputable def code51 : Code := match Try.f51.body with | some c => c | none => .skip
theorem wp51 (s1 : ByteArray) (a2 : Option Addr) (l2 : Nat) (c2 : Nat) (a3 : Option Addr) (l3 : Nat) (c3 : Nat) (x4 : Int) (a5 : Option Addr) (l5 : Nat) (c5 : Nat) (K : Option Addr → Nat → Nat → Bool → World → Prop) (w : World) : WP Try.prog tab code51 ann51 (fnQ tab Try.f51.results.toList [(.one .slice), (.one .bool)] K) (argE 0 [(.agg #[(.string s1), (.slice a2 l2 c2), (.slice a3 l3 c3), (.int .i64 x4)]), (.slice a5 l5 c5)]) w = N51 s1 a2 l2 c2 a3 l3 c3 x4 a5 l5 c5 K w := by kernel_rfl
theorem calls51 (s1 : ByteArray) (a2 : Option Addr) (l2 : Nat) (c2 : Nat) (a3 : Option Addr) (l3 : Nat) (c3 : Nat) (x4 : Int) (a5 : Option Addr) (l5 : Nat) (c5 : Nat) (K : Option Addr → Nat → Nat → Bool → World → Prop) (w : World) (h : N51 s1 a2 l2 c2 a3 l3 c3 x4 a5 l5 c5 K w) : Calls Try.prog 51 #[(.agg #[(.string s1), (.slice a2 l2 c2), (.slice a3 l3 c3), (.int .i64 x4)]), (.slice a5 l5 c5)] w fun en w' => ∃ (a82 : Option Addr), ∃ (l82 : Nat), ∃ (c82 : Nat), ∃ (p83 : Bool), en = .returned (.tuple #[(.slice a82 l82 c82), (.bool p83)]) ∧ K a82 l82 c82 p83 w' :=
  have e : (fun en w' => ExShs [(.one .slice), (.one .bool)] fun vs => en = .returned (tupled vs) ∧ ap [(.one .slice), (.one .bool)] K vs fun p => p w') = (fun (en : Ending) (w' : World) => ∃ (a82 : Option Addr), ∃ (l82 : Nat), ∃ (c82 : Nat), ∃ (p83 : Bool), en = .returned (.tuple #[(.slice a82 l82 c82), (.bool p83)]) ∧ K a82 l82 c82 p83 w') := by kernel_rfl
  e ▸ fn_sound tabOk mixed Try.func51 (by kernel_rfl : Try.f51.body = some code51) ann51 [(.agg #[(.string s1), (.slice a2 l2 c2), (.slice a3 l3 c3), (.int .i64 x4)]), (.slice a5 l5 c5)] [(.one .slice), (.one .bool)] K w (by kernel_rfl) ((wp51 s1 a2 l2 c2 a3 l3 c3 x4 a5 l5 c5 K w).symm ▸ h)
end Go.Proofs.Ytggfnakhmjkoeaa

namespace Go.Proofs.Ytggfnakhmjkoeaa
open Go Go.V Go.Proofs
open Go.RowKit (Below)

/-- a row of bounds, filled as far as k -/
def BndO (B : Nat) (w : World) (b n : Nat) (bs : List Dm) (k : Nat) : Prop :=
  ∃ cs, Blk w b cs 95 ∧ cs.size = n * 3 ∧ ∀ j, j < k → ∃ s, cs[j * 3]? = some (.int .i64 (mn (at' bs j))) ∧ cs[j * 3 + 1]? = some (.int .i64 (mx (at' bs j))) ∧ cs[j * 3 + 2]? = some (.pointer (some ⟨s, 0, none⟩)) ∧ (s ≠ b ∧ B ≤ s) ∧ SetAt w s (fun v => inD (at' bs j) v)
theorem BndO.ext {B : Nat} {w w' : World} {b n k : Nat} {bs : List Dm} (h : BndO B w b n bs k) (e : Ext w w') : BndO B w' b n bs k := by
  obtain ⟨cs, h1, h2, h3⟩ := h
  exact ⟨cs, h1.ext e, h2, fun j hj => by obtain ⟨s, a1, a2, a3, a4, a5⟩ := h3 j hj; exact ⟨s, a1, a2, a3, a4, a5.ext e⟩⟩
theorem SetAt.but {w w' : World} {b s : Nat} {f : Nat → Bool} (h : SetAt w s f) (k : But b w w') (hne : s ≠ b) : SetAt w' s f := by
  obtain ⟨cs, t, h1, h2⟩ := h
  exact ⟨cs, t, k.blk h1 hne, h2⟩
theorem BndO.rows {B : Nat} {w : World} {b n : Nat} {bs : List Dm} (h : BndO B w b n bs n) (hn : n = bs.length) : Bnds w (some ⟨b, 0, none⟩) n bs := by
  obtain ⟨cs, h1, _, h3⟩ := h
  refine ⟨hn, .inr ⟨b, 0, rfl, fun i d hi => ?_⟩⟩
  have hlt := (List.getElem?_eq_some_iff.1 hi).1
  obtain ⟨s, a1, a2, a3, _, a5⟩ := h3 i (by omega)
  have hd : at' bs i = d := by rw [show at' bs i = bs[i] from getD_get hlt _]; exact (List.getElem?_eq_some_iff.1 hi).2
  rw [hd] at a1 a2 a5
  refine ⟨?_, ?_, s, ?_, a5⟩
  · show w.cell? ⟨b, 0 + i * 3 + 0, none⟩ = _
    rw [h1.cell, ← a1]; congr 1; omega
  · show w.cell? ⟨b, 0 + i * 3 + 1, none⟩ = _
    rw [h1.cell, ← a2]; congr 1; omega
  · show w.cell? ⟨b, 0 + i * 3 + 2, none⟩ = _
    rw [h1.cell, ← a3]; congr 1; omega
theorem BndO.push {B : Nat} {w : World} {b n k s : Nat} {bs : List Dm} (h : BndO B w b n bs k) (hk : k < n) (hs : SetAt w s (fun v => inD (at' bs k) v)) (hne : s ≠ b ∧ B ≤ s) {F : World → Prop} (K : ∀ w', BndO B w' b n bs (k + 1) → But b w w' → F w') :
    SetK w ⟨b, k * 3, none⟩ (.int .i64 (mn (at' bs k))) fun w1 => SetK w1 ⟨b, k * 3 + 1, none⟩ (.int .i64 (mx (at' bs k))) fun w2 => SetK w2 ⟨b, k * 3 + 2, none⟩ (.pointer (some ⟨s, 0, none⟩)) F := by
  obtain ⟨cs, h1, h2, h3⟩ := h
  refine SetK.mk h1 (by omega) fun w1 e1 b1 => SetK.mk e1 (by simp; omega) fun w2 e2 b2 => SetK.mk e2 (by simp; omega) fun w3 e3 b3 => ?_
  have hb := (b1.trans b2).trans b3
  refine K w3 ⟨_, e3, by simpa using h2, fun j hj => ?_⟩ hb
  rcases Nat.lt_or_ge j k with hjk | hjk
  · obtain ⟨s', a1, a2, a3, a4, a5⟩ := h3 j hjk
    refine ⟨s', ?_, ?_, ?_, a4, a5.but hb a4.1⟩
    · rw [Array.getElem?_setIfInBounds_ne (by omega), Array.getElem?_setIfInBounds_ne (by omega), Array.getElem?_setIfInBounds_ne (by omega)]; exact a1
    · rw [Array.getElem?_setIfInBounds_ne (by omega), Array.getElem?_setIfInBounds_ne (by omega), Array.getElem?_setIfInBounds_ne (by omega)]; exact a2
    · rw [Array.getElem?_setIfInBounds_ne (by omega), Array.getElem?_setIfInBounds_ne (by omega), Array.getElem?_setIfInBounds_ne (by omega)]; exact a3
  · have : j = k := by omega
    subst this
    refine ⟨s, ?_, ?_, ?_, hne, hs.but hb hne.1⟩
    · rw [Array.getElem?_setIfInBounds_ne (by omega), Array.getElem?_setIfInBounds_ne (by omega), Array.getElem?_setIfInBounds_self_of_lt (by omega)]
    · rw [Array.getElem?_setIfInBounds_ne (by omega), Array.getElem?_setIfInBounds_self_of_lt (by simp; omega)]
    · rw [Array.getElem?_setIfInBounds_self_of_lt (by simp; omega)]

theorem mn_get {d : Dm} (h : 0 < d.length) : d[0].1 = mn d := by
  cases d with
  | nil => simp at h
  | cons q qs => rfl
theorem mx_get {d : Dm} (h : d.length - 1 < d.length) : d[d.length - 1].2 = mx d := by
  rw [mx, List.getLast?_eq_getElem?, List.getElem?_eq_getElem h]

/-- w' is w but for block g, and may have more blocks -/
abbrev Grow (g : Nat) (w w' : World) : Prop := w.grownBy w' (some g)
theorem Grow.refl (g : Nat) (w : World) : Grow g w w := ⟨rfl, rfl, rfl, Nat.le_refl _, fun _ _ _ => rfl⟩
theorem Grow.ext {g : Nat} {a b c : World} (h : Grow g a b) (k : Ext b c) : Grow g a c :=
  ⟨k.os.trans h.os, k.tape.trans h.tape, k.output.trans h.output, Nat.le_trans h.size k.size, fun i hi hne => (k.block i (Nat.lt_of_lt_of_le hi h.size)).trans (h.block i hi hne)⟩
theorem Grow.but {g : Nat} {a b c : World} (h : Grow g a b) (k : But g b c) : Grow g a c :=
  ⟨k.os.trans h.os, k.tape.trans h.tape, k.output.trans h.output, by rw [k.size]; exact h.size, fun i hi hne => (k.block i (fun e => hne (by rw [e]))).trans (h.block i hi hne)⟩
/-- a change of a later block is no change -/
theorem Grow.new {g b : Nat} {a c d : World} (h : Grow g a c) (k : But b c d) (hb : a.heap.size ≤ b) : Grow g a d :=
  ⟨k.os.trans h.os, k.tape.trans h.tape, k.output.trans h.output, by rw [k.size]; exact h.size, fun i hi hne => (k.block i (by omega)).trans (h.block i hi hne)⟩
theorem Grow.below {g B : Nat} {w0 a b : World} (h : Grow g a b) (k : Below B w0 a) (hB : B ≤ g) (hA : B ≤ a.heap.size) : Below B w0 b :=
  ⟨h.os.trans k.os, h.tape.trans k.tape, h.output.trans k.output, Nat.le_trans k.size h.size, fun i hi => (h.block i (Nat.lt_of_lt_of_le hi hA) (by intro e; cases e; omega)).trans (k.block i hi)⟩
theorem Grow.set {g : Nat} {a b : World} {s : Nat} {f : Nat → Bool} (h : Grow g a b) (hs : SetAt a s f) (hne : s ≠ g) : SetAt b s f := by
  obtain ⟨cs, t, h1, h2⟩ := hs
  exact ⟨cs, t, (h.block s h1.lt (by intro e; cases e; exact hne rfl)).trans h1, h2⟩
/-- what is done to a block of its own, behind an Ext -/
theorem Grow.toExt {g : Nat} {w0 a c : World} (h : Grow g a c) (k : Ext w0 a) (hb : w0.heap.size ≤ g) : Ext w0 c := h.below k hb k.size

theorem BndO.grow {B g : Nat} {w w' : World} {b n k : Nat} {bs : List Dm} (h : BndO B w b n bs k) (e : Grow g w w') (hb : b ≠ g) (hB : g < B) : BndO B w' b n bs k := by
  obtain ⟨cs, h1, h2, h3⟩ := h
  refine ⟨cs, (e.block b h1.lt (by intro e; cases e; exact hb rfl)).trans h1, h2, fun j hj => ?_⟩
  obtain ⟨s, a1, a2, a3, a4, a5⟩ := h3 j hj
  exact ⟨s, a1, a2, a3, a4, e.set a5 (by omega)⟩
theorem vec_range {w : World} {B n t : Nat} {z : Array Value} {K : Addr → World → Prop} (bs : List Dm)
    (k : ∀ b w', b = w.heap.size → BndO B w' b n bs 0 → Ext w w' → K ⟨b, 0, none⟩ w') (ht : t = 95) : AllocK w (madeCells z (n * 3)) t K := by
  subst ht
  refine AllocK.mk fun b w' hb hblk hx => k b w' hb ⟨_, hblk, by simp [madeCells], fun j hj => by omega⟩ hx

theorem c51 (w : World) (s : ByteArray) (a2 : Option Addr) (l2 c2 : Nat) (a3 : Option Addr) (l3 c3 : Nat) (x4 : Int) (p : PropS) (h : PropAt w s a2 l2 a3 l3 x4 p)
    (a5 : Option Addr) (l5 c5 : Nat) (ls : List Dm) (hd : Doms w a5 l5 ls) (hvd : ∀ d ∈ ls, VD d) (hp : propB p ls.length = true) :
    Calls Try.prog 51 #[.agg #[.string s, .slice a2 l2 c2, .slice a3 l3 c3, .int .i64 x4], .slice a5 l5 c5] w fun en w' => ∃ a l c q, en = .returned (.tuple #[.slice a l c, .bool q]) ∧
      (DomsO w.heap.size w' a l c (keepS p ls) ∧ q = lessS p ls ∧ Ext w w') := by
  have hP := h
  have hl5 : l5 = ls.length := hd.1
  obtain ⟨hn, hall, hk⟩ : (0 ≤ (ls.length : Int) ∧ (ls.length : Int) ≤ 40) ∧ p.vars.all (fun x => decide (0 ≤ x ∧ x < (ls.length : Int))) = true ∧ kindB (kdOf p.kind) p.vars.length p.coefs.length p.coefs p.n = true := by
    simp only [propB, Bool.and_eq_true, decide_eq_true_eq] at hp; exact ⟨hp.1.1, hp.1.2, hp.2⟩
  have hvar : ∀ j (hj : j < p.vars.length), 0 ≤ p.vars[j] ∧ p.vars[j] < ls.length := fun j hj => by
    have := List.all_eq_true.1 hall _ (List.getElem_mem hj)
    simpa using this
  have hv40 : p.vars.length ≤ 40 := by
    cases hkd : kdOf p.kind <;> rw [hkd] at hk <;> simp [kindB] at hk <;> omega
  obtain ⟨rfl, hv2, _, rfl, _, _⟩ := h
  have hl2 : l2 = p.vars.length := hv2.1
  refine calls51 _ _ _ _ _ _ _ _ _ _ _ _ w ?_
  refine AllocK.mk fun b6 w7 hb6 hblk hx7 => ?_
  have hcell := fun (w' : World) (k : Ext w7 w') => cell4 (hblk.ext k)
  refine (c57 w7 a5 l5 c5 ls (hd.ext (RSl.mono RPair.mono) hx7) (by omega) (fun d hd' => by have := (hvd d hd').len; omega)).mono ?_
  rintro en w9 ⟨a8, l8, c8, rfl, ⟨g, rfl⟩, hout, hx9⟩
  have hl8 := hout.len
  simp only [add_mk, Nat.zero_add]
  refine ⟨_, l8, c8, rfl, _, _, _, (hcell w9 hx9).2.1, by omega, ?_⟩
  have hg : w7.heap.size ≤ g ∧ g < w9.heap.size := by
    obtain ⟨S, _, hS, _⟩ := hout
    exact hS.lt g rfl
  have hsz7 := hx7.size
  simp only [Int.toNat_natCast]
  refine vec_range (B := w9.heap.size) (bsOf p ls) (fun b12 w13 hb12 hbnd hx13 => ?_) rfl
  have hx13' := hx9.trans hx13
  refine ⟨_, _, _, (hcell w13 hx13').2.1, ?_⟩
  have hlenb : (bsOf p ls).length = p.vars.length := by simp [bsOf]
  have hat : ∀ j (hj : j < p.vars.length), at' (bsOf p ls) j = getL ls p.vars[j] := fun j hj => by
    rw [show at' (bsOf p ls) j = (bsOf p ls)[j]'(by rw [hlenb]; exact hj) from getD_get (by omega) _]; simp [bsOf]
  have hb12lt : b12 < w13.heap.size := by obtain ⟨cs, e, _⟩ := hbnd; exact e.lt
  refine ⟨fun x w' => ∃ k : Nat, x = k ∧ k ≤ p.vars.length ∧ (p.vars.take k).any (fun x => decide (getL ls x = [])) = false ∧ BndO w9.heap.size w' b12 l2 (bsOf p ls) k ∧ Grow b12 w13 w', fun x _ => p.vars.length - x.toNat,
    ⟨⟨0, rfl, by omega, rfl, hbnd, Grow.refl _ _⟩, trivial⟩, ?_⟩
  rintro w17 _ ⟨k, rfl, hkk, hne, hbk, hgr⟩
  have hx17 : Ext w9 w17 := hgr.toExt hx13 (by omega)
  have hx17' := hx9.trans hx17
  have hxw := hx7.trans hx17'
  have hout17 := hout.ext RPair.mono hx17
  refine BoolK.mk (fun hlt => ?_) (fun hge => ?_)
  · -- a bound more
    have hlt : k < p.vars.length := by simp at hlt; omega
    have hr := hvar k hlt
    obtain ⟨bv, ov, rfl, g0⟩ := intAt hv2 w17 hxw hlt
    have hxl : (p.vars[k]).toNat < ls.length := by omega
    obtain ⟨bl, ol, a22, l22, c22, rfl, g1, hdom⟩ := domsAt hd w17 hxw hxl
    have hdl := hdom.1
    have hgl : getL ls p.vars[k] = ls[(p.vars[k]).toNat] := getD_get hxl _
    refine ⟨by omega, ?_⟩
    simp only [AddrK, Int.toNat_natCast, add_mk, Nat.mul_one]
    refine ⟨_, g0, by omega, _, _, _, g1, BoolK.mk (fun t => ?_) (fun t => ?_)⟩
    · -- it is empty: all of Vars are
      have hemp : ls[(p.vars[k]).toNat] = [] := by apply List.length_eq_zero_iff.1; simp at t; omega
      have hhas : hasEmpty p ls = true := any_true (p := fun x => decide (getL ls x = [])) hlt (by rw [hgl, hemp]; rfl)
      refine ⟨_, _, _, (hcell _ hx17').2.1, ?_⟩
      refine ⟨fun q x w' => ∃ j : Nat, x = j ∧ j ≤ p.vars.length ∧ q = (p.vars.take j).any (fun x => decide (getL ls x ≠ [])) ∧ DomsO w7.heap.size w' (some ⟨g, 0, none⟩) l8 c8 (emptied p.vars ls j) ∧ But g w17 w', fun _ x _ => p.vars.length - x.toNat,
        ⟨⟨0, rfl, by omega, rfl, hout17, ⟨rfl, rfl, rfl, rfl, fun _ _ => rfl⟩⟩, trivial⟩, ?_⟩
      rintro w26 _ _ ⟨j, rfl, hj, rfl, ho, hbut⟩
      have hxw26 : Ext w w26 := hbut.below hxw (by omega)
      refine BoolK.mk (fun hlt2 => ?_) (fun hge2 => ?_)
      · have hlt2 : j < p.vars.length := by simp at hlt2; omega
        have hr2 := hvar j hlt2
        obtain ⟨b', o', ha', f0⟩ := intAt hv2 w26 hxw26 hlt2
        simp at ha'; obtain ⟨rfl, rfl⟩ := ha'
        have hxl2 : (p.vars[j]).toNat < ls.length := by omega
        obtain ⟨b', o', a34, l34, c34, ha', f1, hdom2⟩ := domsAt hd w26 hxw26 hxl2
        simp at ha'; obtain ⟨rfl, rfl⟩ := ha'
        have hgl2 : getL ls p.vars[j] = ls[(p.vars[j]).toNat] := getD_get hxl2 _
        have hdl2 := hdom2.1
        have hl8' : l8 = ls.length := hl8
        have hpd : p.vars.getD j 0 = p.vars[j] := getD_get hlt2 _
        refine ⟨by omega, ?_⟩
        simp only [Int.toNat_natCast, add_mk, Nat.zero_add]
        refine ⟨_, f0, ?_⟩
        rw [wrap_succ (by omega)]
        refine BoolK.mk (fun t2 => ?_) (fun t2 => ?_)
        · refine ⟨by omega, ho.set RPair.leaf (i := (p.vars[j]).toNat) (by rw [emptied_len]; omega) (Go.V.Rows.nil _ _ _ _) (.inl rfl) fun w32 ho32 hbut32 => ?_⟩
          refine ⟨⟨j + 1, rfl, by omega, by rw [any_take hlt2, t2]; rfl, by rw [emptied, hpd]; exact ho32, hbut.trans hbut32⟩, by simp; omega⟩
        · refine ⟨by omega, _, _, _, f1, by omega, ho.set RPair.leaf (i := (p.vars[j]).toNat) (by rw [emptied_len]; omega) (Go.V.Rows.nil _ _ _ _) (.inl rfl) fun w32 ho32 hbut32 => ?_⟩
          refine ⟨⟨j + 1, rfl, by omega, ?_, by rw [emptied, hpd]; exact ho32, hbut.trans hbut32⟩, by simp; omega⟩
          rw [any_take hlt2, t2, Bool.false_or, hgl2, decide_eq_decide, hdl2]
          rw [ne_eq, ← List.length_eq_zero_iff]; omega
      · have : j = p.vars.length := by simp at hge2; omega
        subst this
        refine ⟨?_, ?_, hxw26⟩
        · rw [keepS, hhas, if_pos rfl]
          obtain ⟨S, e1, e2, e3⟩ := ho
          exact ⟨S, e1, e2.mono hsz7, e3⟩
        · rw [lessS, hhas, if_pos rfl, List.take_length]
    · -- its bounds
      have hnem : ls[(p.vars[k]).toNat] ≠ [] := fun e => by rw [e] at hdl; simp at t; simp at hdl; omega
      have hl22 : 0 < ls[(p.vars[k]).toNat].length := List.length_pos_iff.2 hnem
      refine DrewK.mk fun w37 hx37 => ?_
      have hx37w := hxw.trans hx37
      have hdom37 := hdom.ext RPair.mono hx37
      obtain ⟨b', o', hbo, f0, f1⟩ := domAt hdom37 w37 (Ext.refl _) hl22
      obtain ⟨b'', o'', hbo2, _, f2⟩ := domAt hdom37 w37 (Ext.refl _) (i := ls[(p.vars[k]).toNat].length - 1) (by omega)
      subst hbo
      simp at hbo2; obtain ⟨rfl, rfl⟩ := hbo2
      have hw1 : IntKind.wrap .i64 ((l22 : Int) - 1) = ((l22 - 1 : Nat) : Int) := by
        have := (hvd _ (List.getElem_mem hxl)).len
        rw [wrap_id] <;> omega
      rw [hw1]
      refine ⟨by omega, ?_⟩
      simp only [add_mk, Int.toNat_zero, Int.toNat_one, Nat.zero_mul, Nat.add_zero, Nat.zero_add, Int.toNat_natCast] at f0 ⊢
      have hvdk := hvd _ (List.getElem_mem hxl)
      refine ⟨by omega, _, f0, by omega, by omega, _, by rw [hdl]; exact f2, (c81 w37 _ _ c22 _ hdom37 hvdk).mono ?_⟩
      rintro en w43 ⟨o42, rfl, sb, rfl, hsb, hset, hx43⟩
      have hset' : SetAt w43 sb (fun v => inD (at' (bsOf p ls) k) v) := by rw [hat k hlt, hgl]; exact hset
      have hgr43 := (hgr.ext hx37).ext hx43
      have hb43 := (hbk.ext hx37).ext hx43
      have hsz := hgr.size
      have hsz2 := hx37.size
      have em : (ls[(p.vars[k]).toNat][0]'hl22).1 = mn (at' (bsOf p ls) k) := by rw [hat k hlt, hgl]; exact mn_get hl22
      have eM : (ls[(p.vars[k]).toNat][ls[(p.vars[k]).toNat].length - 1]'(by omega)).2 = mx (at' (bsOf p ls) k) := by rw [hat k hlt, hgl]; exact mx_get (by omega)
      rw [em, eM]
      refine ⟨_, rfl, hx43, by omega, hb43.push (by omega) hset' (by omega) fun w47 hb47 hbut => ?_⟩
      rw [wrap_succ (by omega)]
      refine ⟨⟨k + 1, rfl, by omega, ?_, hb47, hgr43.but hbut⟩, by simp; omega⟩
      rw [any_take hlt, hne, hgl, Bool.false_or, decide_eq_false hnem]
  -- all bounds are there
  have : k = p.vars.length := by simp at hge; omega
  subst this
  rw [List.take_length] at hne
  have hhas : hasEmpty p ls = false := hne
  have hbnds : Bnds w17 (some ⟨b12, 0, none⟩) l2 (bsOf p ls) := (by rw [← hl2] at hbk; exact hbk : BndO w9.heap.size w17 b12 l2 (bsOf p ls) l2).rows (by omega)
  have hfull : ∀ d ∈ bsOf p ls, Full d := fun d hdm => by
    obtain ⟨x, hx, rfl⟩ := List.mem_map.1 hdm
    refine ⟨getL_vd hvd x, fun e => ?_⟩
    have : (p.vars.any fun x => decide (getL ls x = [])) = true := List.any_eq_true.2 ⟨x, hx, by rw [e]; rfl⟩
    rw [hne] at this; cases this
  refine ⟨_, _, _, (hcell _ hx17').2.1, ?_⟩
  rw [keepS, lessS, hhas]
  simp only [Bool.false_eq_true, if_false]
  refine ⟨fun q x w' => ∃ j : Nat, x = j ∧ j ≤ p.vars.length ∧ q = lessK (passP p ls) p.vars ls j ∧ DomsO w7.heap.size w' (some ⟨g, 0, none⟩) l8 c8 (stepsK (passP p ls) p.vars ls j) ∧ Grow g w17 w', fun _ x _ => p.vars.length - x.toNat,
    ⟨⟨0, rfl, by omega, rfl, hout17, Grow.refl _ _⟩, trivial⟩, ?_⟩
  rintro w51 _ _ ⟨j, rfl, hj, rfl, ho, hgr51⟩
  have hx51 : Ext w7 w51 := hgr51.toExt hx17' (by omega)
  have hxw51 := hx7.trans hx51
  refine BoolK.mk (fun hlt => ?_) (fun hge2 => ?_)
  · have hlt : j < p.vars.length := by simp at hlt; omega
    have hr := hvar j hlt
    have hpd : p.vars.getD j 0 = p.vars[j] := getD_get hlt _
    obtain ⟨bv, ov, rfl, g0⟩ := intAt hv2 w51 hxw51 hlt
    refine ⟨by omega, ?_⟩
    simp only [AddrK, Int.toNat_natCast, add_mk, Nat.mul_one]
    have hxl : (p.vars[j]).toNat < (stepsK (passP p ls) p.vars ls j).length := by rw [stepsK_len]; omega
    have hl8s : l8 = ls.length := hl8
    obtain ⟨g', ⟨a57, l57, c57⟩, hga, _, hglt, g1, hdom⟩ := ho.get hxl
    cases hga
    simp only at g1 hdom
    have hvdo := stepsK_vd (passP p ls) p.vars hvd j
    have hvdj := hvdo _ (List.getElem_mem hxl)
    have hgo : getL (stepsK (passP p ls) p.vars ls j) p.vars[j] = (stepsK (passP p ls) p.vars ls j)[(p.vars[j]).toNat] := getD_get hxl _
    refine ⟨_, g0, by omega, ?_⟩
    simp only [Nat.zero_add]
    refine ⟨_, _, _, g1, (c81 w51 a57 l57 c57 _ hdom hvdj).mono ?_⟩
    rintro en w59 ⟨o58, rfl, sb, rfl, hsb, hset, hx59⟩
    refine ⟨_, rfl, ?_⟩
    have hsblt := hset.lt
    generalize hD : (stepsK (passP p ls) p.vars ls j)[(p.vars[j]).toNat] = D at hset hdom hvdj hgo
    -- the values, one after the other
    refine ⟨fun q x w' => ∃ v : Nat, x = v ∧ v ≤ 1001 ∧ q = (lessK (passP p ls) p.vars ls j || (allV.take v).any fun v => inD D v && !passP p ls j v) ∧ SetAt w' sb (fun u => inD D u && (decide (v ≤ u) || passP p ls j u)) ∧ Grow sb w59 w', fun _ x _ => 1001 - x.toNat,
      ⟨⟨0, rfl, by omega, by simp, hset.congr fun i _ => by simp, Grow.refl _ _⟩, trivial⟩, ?_⟩
    intro w63 q63 x63 hI63
    obtain ⟨v, hxv, hv, hq63, hs, hg63⟩ := hI63
    subst hxv
    subst hq63
    have hx63 : Ext w51 w63 := hg63.toExt hx59 hsb
    have hx63w := hxw51.trans hx63
    have hx63' := hx51.trans hx63
    rw [BoolK_iff]
    constructor
    · intro hltv
      have hltv : v < 1001 := by simp at hltv; omega
      have hltr : v < allV.length := by rw [allV_len]; exact hltv
      have hcellv := hs.cell hltv
      simp only [decide_eq_true (Nat.le_refl v), Bool.true_or, Bool.and_true] at hcellv
      have step : ∀ (w' : World) (q q' : Bool), SetAt w' sb (fun u => inD D u && (decide (v + 1 ≤ u) || passP p ls j u)) → Grow sb w59 w' → q' = (inD D v && !passP p ls j v) → q = ((lessK (passP p ls) p.vars ls j || (allV.take v).any fun v => inD D v && !passP p ls j v) || q') →
          (∃ v' : Nat, IntKind.wrap .i64 ((v : Int) + 1) = v' ∧ v' ≤ 1001 ∧ q = (lessK (passP p ls) p.vars ls j || (allV.take v').any fun v => inD D v && !passP p ls j v) ∧ SetAt w' sb (fun u => inD D u && (decide (v' ≤ u) || passP p ls j u)) ∧ Grow sb w59 w') ∧
          1001 - (IntKind.wrap .i64 ((v : Int) + 1)).toNat < 1001 - (v : Int).toNat := fun w' q q' hs' hg' hq' hq => by
        rw [wrap_succ (by omega)]
        refine ⟨⟨v + 1, rfl, by omega, ?_, hs', hg'⟩, by simp; omega⟩
        rw [hq, hq', any_take hltr, allV_get, Bool.or_assoc]
      refine ⟨by omega, ?_⟩
      simp only [Int.toNat_natCast, add_mk, Nat.zero_add]
      refine ⟨_, hcellv, BoolK.mk (fun t => ?_) (fun t => ?_)⟩
      · have hc := hcell _ hx63'
        refine ⟨_, hc.1, _, _, _, hc.2.1, _, _, _, hc.2.2.1, _, hc.2.2.2, ?_⟩
        have hx17_63 : Bnds w63 (some ⟨b12, 0, none⟩) l2 (bsOf p ls) := by
          have hB : BndO w9.heap.size w17 b12 l2 (bsOf p ls) l2 := by rw [← hl2] at hbk; exact hbk
          exact (hB.grow (hgr51.ext hx63) (by omega) hg.2).rows (by omega)
        refine (c82 w63 _ _ _ _ _ _ _ _ p (hP.ext hx63w) _ l2 l2 (bsOf p ls) hx17_63 hlenb hfull hk j v (by omega) (by omega)).mono ?_
        rintro en w73 ⟨r, rfl, hr2, hx73⟩
        have hr3 : r = passP p ls j v := hr2
        refine ⟨_, rfl, BoolK.mk (fun t2 => ?_) (fun t2 => ?_)⟩
        · refine ⟨by omega, (hs.ext hx73).set (g := fun u => inD D u && (decide (v + 1 ≤ u) || passP p ls j u)) hltv (fun u => ?_) fun w76 hs76 hbut => step w76 _ true hs76 ((hg63.ext hx73).but hbut) ?_ (by simp)⟩
          · by_cases hu : u = v
            · subst hu
              rw [if_pos rfl, ← hr3, decide_eq_false (by omega)]
              simp at t2; rw [t2]; simp
            · rw [if_neg hu, show decide (v + 1 ≤ u) = decide (v ≤ u) from decide_eq_decide.2 (by omega)]
          · rw [t, ← hr3, t2]; rfl
        · refine step w73 _ false ((hs.ext hx73).congr fun u _ => ?_) (hg63.ext hx73) (by rw [← hr3, t2]; simp) (by simp)
          by_cases hu : u = v
          · subst hu
            simp at t2; rw [← hr3, t2]; simp
          · rw [show decide (v + 1 ≤ u) = decide (v ≤ u) from decide_eq_decide.2 (by omega)]
      · refine step w63 _ false (hs.congr fun u _ => ?_) hg63 (by rw [t]; rfl) (by simp)
        by_cases hu : u = v
        · subst hu; rw [t]; rfl
        · rw [show decide (v + 1 ≤ u) = decide (v ≤ u) from decide_eq_decide.2 (by omega)]
    · intro hgev
      have : v = 1001 := by simp at hgev; omega
      subst this
      refine (c65 w63 sb _ hs).mono ?_
      rintro en w78 ⟨a77, l77, c77, rfl, ho77, hx78⟩
      refine ⟨_, _, _, rfl, by omega, ?_⟩
      have hx78' := hx63.trans hx78
      refine (ho.ext RPair.mono hx78').set RPair.leaf (i := (p.vars[j]).toNat) hxl ho77.dom (ho77.apart (Nat.lt_of_lt_of_le hglt hx63.size)) fun w81 ho81 hbut81 => ?_
      rw [wrap_succ (by omega)]
      refine ⟨⟨j + 1, rfl, by omega, ?_, ?_, (hgr51.ext hx78').but hbut81⟩, by simp; omega⟩
      · rw [List.take_of_length_le (by rw [allV_len]; omega), lessK, hpd, hgo]
      · rw [stepsK, hpd, hgo]
        have e : rngs (fun u => inD D u && (decide (1001 ≤ u) || passP p ls j u)) 1001 = rngs (fun v => inD D v && passP p ls j v) 1001 := rngs_congr fun u hu => by
          rw [decide_eq_false (by omega), Bool.false_or]
        rw [← e]; exact ho81
  · have : j = p.vars.length := by simp at hge2; omega
    subst this
    refine ⟨?_, rfl, hxw51⟩
    obtain ⟨S, e1, e2, e3⟩ := ho
    exact ⟨S, e1, e2.mono hsz7, e3⟩
end Go.Proofs.Ytggfnakhmjkoeaa

namespace Go.Proofs.Ytggfnakhmjkoeaa
open Go Go.V Go.Proofs
open Go.RowKit (Below)

/-- v is a value of the x-th domain -/
def InS (l : List Dm) (x : Nat) (v : Int) : Prop := inD (at' l x) v = true
def VDs (l : List Dm) : Prop := ∀ d ∈ l, VD d
theorem VDs.at {l : List Dm} (h : VDs l) (x : Nat) : VD (at' l x) := by
  unfold at'
  rcases Nat.lt_or_ge x l.length with hx | hx
  · rw [getD_get hx]; exact h _ (List.getElem_mem _)
  · rw [List.getD_eq_getElem?_getD, List.getElem?_eq_none hx]; exact vd_nil
theorem InS.bound {l : List Dm} (h : VDs l) {x : Nat} {v : Int} (hv : InS l x v) : 0 ≤ v ∧ v ≤ 1000 := (h.at x).bound hv
theorem at_get {l : List Dm} {x : Nat} (hx : x < l.length) : at' l x = l[x] := getD_get hx _
theorem at_none {l : List Dm} {x : Nat} (hx : l.length ≤ x) : at' l x = [] := by
  unfold at'; rw [List.getD_eq_getElem?_getD, List.getElem?_eq_none hx]; rfl
theorem InS.lt {l : List Dm} {x : Nat} {v : Int} (hv : InS l x v) : x < l.length := by
  rcases Nat.lt_or_ge x l.length with hx | hx
  · exact hx
  · unfold InS at hv; rw [at_none hx] at hv; cases hv
theorem at_set {l : List Dm} {i : Nat} {d : Dm} (hi : i < l.length) (x : Nat) : at' (l.set i d) x = if x = i then d else at' l x := by
  unfold at'
  rw [List.getD_eq_getElem?_getD, List.getD_eq_getElem?_getD, List.getElem?_set]
  by_cases h : i = x
  · subst h; rw [if_pos rfl, if_pos hi, if_pos rfl]; rfl
  · rw [if_neg h, if_neg (fun e => h e.symm)]
theorem doms_ext {l m : List Dm} (hl : VDs l) (hm : VDs m) (hlen : l.length = m.length) (h : ∀ x v, InS l x v ↔ InS m x v) : l = m := by
  apply List.ext_getElem hlen
  intro i h1 h2
  refine vd_ext _ _ (hl _ (List.getElem_mem _)) (hm _ (List.getElem_mem _)) fun v => ?_
  rw [Bool.eq_iff_iff, ← at_get h1, ← at_get h2]
  exact h i v

/-- the place of the j-th variable -/
def px (vars : List Int) (j : Nat) : Nat := (vars.getD j 0).toNat
/-- all places are there -/
def VarsOk (vars : List Int) (n : Nat) : Prop := ∀ j, j < vars.length → px vars j < n
theorem getL_at (l : List Dm) (x : Int) : getL l x = at' l x.toNat := rfl

theorem emptied_mem (vars : List Int) (l : List Dm) (hv : VarsOk vars l.length) : ∀ n, n ≤ vars.length → ∀ x v, InS (emptied vars l n) x v ↔ (InS l x v ∧ ∀ j, j < n → px vars j ≠ x)
  | 0, _, x, v => by simp [emptied]
  | n + 1, hn, x, v => by
    have ih := emptied_mem vars l hv n (by omega) x v
    unfold InS at ih ⊢
    rw [emptied, at_set (by rw [emptied_len]; exact hv n (by omega))]
    by_cases hx : x = (vars.getD n 0).toNat
    · rw [if_pos hx]
      constructor
      · intro h; cases h
      · rintro ⟨_, h⟩; exact absurd hx.symm (h n (by omega))
    · rw [if_neg hx, ih]
      constructor
      · rintro ⟨h1, h2⟩
        refine ⟨h1, fun j hj => ?_⟩
        rcases Nat.lt_or_ge j n with h | h
        · exact h2 j h
        · have : j = n := by omega
          subst this; exact fun e => hx e.symm
      · rintro ⟨h1, h2⟩; exact ⟨h1, fun j hj => h2 j (by omega)⟩

theorem steps_mem (pass : Nat → Int → Bool) (vars : List Int) (l : List Dm) (hl : VDs l) (hv : VarsOk vars l.length) : ∀ n, n ≤ vars.length → ∀ x v, InS (stepsK pass vars l n) x v ↔ (InS l x v ∧ ∀ j, j < n → px vars j = x → pass j v = true)
  | 0, _, x, v => by simp [stepsK]
  | n + 1, hn, x, v => by
    have ih := steps_mem pass vars l hl hv n (by omega) x v
    have hvd := VDs.at (stepsK_vd pass vars hl n) (px vars n)
    unfold InS at ih ⊢
    rw [stepsK, at_set (by rw [stepsK_len]; exact hv n (by omega))]
    by_cases hx : x = (vars.getD n 0).toNat
    · have hx' : px vars n = x := hx.symm
      rw [if_pos hx, inD_rngs, getL_at, ← hx, Bool.and_eq_true, decide_eq_true_eq, Bool.and_eq_true]
      rw [hx'] at hvd
      constructor
      · rintro ⟨h0, h1, h2⟩
        rw [show ((v.toNat : Nat) : Int) = v by omega] at h1 h2
        obtain ⟨h3, h4⟩ := ih.1 h1
        refine ⟨h3, fun j hj hjx => ?_⟩
        rcases Nat.lt_or_ge j n with h | h
        · exact h4 j h hjx
        · have : j = n := by omega
          subst this; exact h2
      · rintro ⟨h3, h4⟩
        have h1 := ih.2 ⟨h3, fun j hj => h4 j (by omega)⟩
        have hb := hvd.bound h1
        rw [show ((v.toNat : Nat) : Int) = v by omega]
        exact ⟨hb, h1, h4 n (by omega) hx'⟩
    · rw [if_neg hx, ih]
      constructor
      · rintro ⟨h1, h2⟩
        refine ⟨h1, fun j hj hjx => ?_⟩
        rcases Nat.lt_or_ge j n with h | h
        · exact h2 j h hjx
        · have : j = n := by omega
          subst this; exact absurd hjx (fun e => hx e.symm)
      · rintro ⟨h1, h2⟩; exact ⟨h1, fun j hj => h2 j (by omega)⟩

theorem less_mem (pass : Nat → Int → Bool) (vars : List Int) (l : List Dm) : ∀ n, lessK pass vars l n = true ↔ ∃ j, j < n ∧ ∃ v : Nat, v < 1001 ∧ InS (stepsK pass vars l j) (px vars j) v ∧ pass j v = false
  | 0 => by simp [lessK]
  | n + 1 => by
    rw [lessK, Bool.or_eq_true, less_mem pass vars l n, List.any_eq_true]
    constructor
    · rintro (⟨j, hj, h⟩ | ⟨v, hv, h⟩)
      · exact ⟨j, by omega, h⟩
      · rw [Bool.and_eq_true, Bool.not_eq_true'] at h
        exact ⟨n, by omega, v, mem_allV.1 hv, h.1, h.2⟩
    · rintro ⟨j, hj, v, hv, h1, h2⟩
      rcases Nat.lt_or_ge j n with h | h
      · exact .inl ⟨j, h, v, hv, h1, h2⟩
      · have : j = n := by omega
        subst this
        refine .inr ⟨v, mem_allV.2 hv, ?_⟩
        rw [Bool.and_eq_true, Bool.not_eq_true']; exact ⟨h1, h2⟩

theorem getL_px {vars : List Int} {l : List Dm} {j : Nat} (hj : j < vars.length) : getL l vars[j] = at' l (px vars j) := by
  rw [getL_at, px, getD_get hj]

theorem hasEmpty_iff (p : PropS) (l : List Dm) : hasEmpty p l = true ↔ ∃ j, j < p.vars.length ∧ at' l (px p.vars j) = [] := by
  unfold hasEmpty
  rw [List.any_eq_true]
  constructor
  · rintro ⟨x, hx, h⟩
    obtain ⟨j, hj, rfl⟩ := List.mem_iff_getElem.1 hx
    exact ⟨j, hj, by rw [← getL_px hj]; exact of_decide_eq_true h⟩
  · rintro ⟨j, hj, h⟩
    exact ⟨_, List.getElem_mem hj, by rw [getL_px hj]; exact decide_eq_true h⟩

theorem keep_mem (p : PropS) (l : List Dm) (hl : VDs l) (hv : VarsOk p.vars l.length) (x : Nat) (v : Int) :
    InS (keepS p l) x v ↔ (InS l x v ∧ if hasEmpty p l then (∀ j, j < p.vars.length → px p.vars j ≠ x) else ∀ j, j < p.vars.length → px p.vars j = x → passP p l j v = true) := by
  unfold keepS
  split
  · rw [emptied_mem _ _ hv _ (Nat.le_refl _)]
  · rw [steps_mem _ _ _ hl hv _ (Nat.le_refl _)]
theorem keep_sub (p : PropS) (l : List Dm) (hl : VDs l) (hv : VarsOk p.vars l.length) {x : Nat} {v : Int} (h : InS (keepS p l) x v) : InS l x v := ((keep_mem p l hl hv x v).1 h).1
theorem ne_nil_iff {d : Dm} (h : VD d) : d ≠ [] ↔ ∃ v, inD d v = true := by
  constructor
  · intro hne
    cases d with
    | nil => exact absurd rfl hne
    | cons q qs =>
      have := h.all q List.mem_cons_self
      refine ⟨q.1, ?_⟩
      simp only [inD, List.any_cons, inR, Bool.or_eq_true, Bool.and_eq_true, decide_eq_true_eq]
      left; omega
  · rintro ⟨v, hv⟩ rfl; cases hv

/-- Keep says rightly whether it kept less. -/
theorem less_iff (p : PropS) (l : List Dm) (hl : VDs l) (hv : VarsOk p.vars l.length) : lessS p l = true ↔ keepS p l ≠ l := by
  by_cases he : hasEmpty p l = true
  · rw [lessS, if_pos he, List.any_eq_true]
    have hm := fun x v => keep_mem p l hl hv x v
    simp only [he, if_true] at hm
    constructor
    · rintro ⟨x, hx, h⟩ e
      obtain ⟨j, hj, rfl⟩ := List.mem_iff_getElem.1 hx
      have h' := of_decide_eq_true h
      rw [getL_px hj] at h'
      obtain ⟨v, hv'⟩ := (ne_nil_iff (hl.at _)).1 h'
      have h2 : InS (keepS p l) (px p.vars j) v := by rw [e]; exact hv'
      exact ((hm _ _).1 h2).2 j hj rfl
    · intro hne
      apply Classical.byContradiction
      intro hno
      apply hne
      refine doms_ext (keepS_vd p hl) hl (keepS_len p l) fun x v => ⟨keep_sub p l hl hv, fun h => (hm x v).2 ⟨h, fun j hj e => hno ⟨_, List.getElem_mem hj, ?_⟩⟩⟩
      rw [getL_px hj, e]
      exact decide_eq_true ((ne_nil_iff (hl.at _)).2 ⟨v, h⟩)
  · rw [lessS, if_neg he, less_mem]
    have hm := fun x v => keep_mem p l hl hv x v
    simp only [he, Bool.false_eq_true, if_false] at hm
    constructor
    · rintro ⟨j, hj, v, hv1, h1, h2⟩ e
      have h3 := ((steps_mem _ _ _ hl hv j (by omega) _ _).1 h1).1
      have h4 : InS (keepS p l) (px p.vars j) v := by rw [e]; exact h3
      have h5 := ((hm _ _).1 h4).2 j hj rfl
      rw [h2] at h5; cases h5
    · intro hne
      apply Classical.byContradiction
      intro hno
      apply hne
      refine doms_ext (keepS_vd p hl) hl (keepS_len p l) fun x v => ⟨keep_sub p l hl hv, fun h => (hm x v).2 ⟨h, ?_⟩⟩
      intro j
      induction j using Nat.strongRecOn with
      | _ j ih =>
        intro hj hjx
        have hb := h.bound hl
        cases hp : passP p l j v with
        | true => rfl
        | false =>
          refine absurd ⟨j, hj, v.toNat, by omega, ?_, ?_⟩ hno
          · rw [show ((v.toNat : Nat) : Int) = v by omega, hjx]
            exact (steps_mem _ _ _ hl hv j (by omega) _ _).2 ⟨h, fun i hi hix => ih i hi (by omega) hix⟩
          · rw [show ((v.toNat : Nat) : Int) = v by omega]; exact hp

/-! ### Sizes -/
theorem countP_lt {α : Type} {p q : α → Bool} : ∀ {l : List α}, (∀ x ∈ l, p x = true → q x = true) → (∃ x ∈ l, q x = true ∧ p x = false) → l.countP p < l.countP q
  | [], _, h => by obtain ⟨x, hx, _⟩ := h; cases hx
  | a :: l, h, ⟨x, hx, h1, h2⟩ => by
    have hle : l.countP p ≤ l.countP q := List.countP_mono_left fun y hy => h y (List.mem_cons_of_mem _ hy)
    rw [List.countP_cons, List.countP_cons]
    rcases List.mem_cons.1 hx with rfl | hx
    · rw [h1, h2]; simp; omega
    · have := countP_lt (fun y hy => h y (List.mem_cons_of_mem _ hy)) ⟨x, hx, h1, h2⟩
      have ha := h a List.mem_cons_self
      cases hpa : p a
      · simp; cases q a <;> simp <;> omega
      · rw [ha hpa]; simp; omega
noncomputable def cnt (d : Dm) : Nat := allV.countP fun (v : Nat) => inD d (v : Int)
theorem cnt_le {d e : Dm} (h : ∀ v, inD d v = true → inD e v = true) : cnt d ≤ cnt e := List.countP_mono_left fun (v : Nat) _ => h (v : Int)
theorem cnt_eq {d e : Dm} (hd : VD d) (he : VD e) (h : ∀ v, inD d v = true → inD e v = true) (hc : cnt e ≤ cnt d) : d = e := by
  apply Classical.byContradiction
  intro hne
  have : ∃ v, inD e v = true ∧ inD d v = false := by
    apply Classical.byContradiction
    intro hno
    apply hne
    refine vd_ext d e hd he fun v => ?_
    rw [Bool.eq_iff_iff]
    refine ⟨h v, fun hv => ?_⟩
    cases hdv : inD d v with
    | true => rfl
    | false => exact absurd ⟨v, hv, hdv⟩ hno
  obtain ⟨v, h1, h2⟩ := this
  have hb := he.bound h1
  have := countP_lt (l := allV) (p := fun (v : Nat) => inD d (v : Int)) (q := fun (v : Nat) => inD e (v : Int)) (fun v _ => h v) ⟨v.toNat, mem_allV.2 (by omega), by rw [show ((v.toNat : Nat) : Int) = v by omega]; exact ⟨h1, h2⟩⟩
  unfold cnt at hc; omega
noncomputable def siz : List Dm → Nat
  | [] => 0
  | d :: l => cnt d + siz l
def Sub (l m : List Dm) : Prop := ∀ x v, InS l x v → InS m x v
theorem Sub.refl (l : List Dm) : Sub l l := fun _ _ h => h
theorem Sub.trans {a b c : List Dm} (h : Sub a b) (k : Sub b c) : Sub a c := fun x v hh => k x v (h x v hh)
theorem Sub.cons {d e : Dm} {l m : List Dm} (h : Sub (d :: l) (e :: m)) : (∀ v, inD d v = true → inD e v = true) ∧ Sub l m := ⟨fun v hv => h 0 v hv, fun x v hv => h (x + 1) v hv⟩
theorem siz_le : ∀ {l m : List Dm}, l.length = m.length → Sub l m → siz l ≤ siz m
  | [], [], _, _ => Nat.le_refl _
  | [], _ :: _, h, _ => by simp at h
  | _ :: _, [], h, _ => by simp at h
  | d :: l, e :: m, h, hs => by
    have h1 := cnt_le hs.cons.1
    have h2 := siz_le (l := l) (m := m) (by simpa using h) hs.cons.2
    simp only [siz]; omega
theorem siz_eq : ∀ {l m : List Dm}, VDs l → VDs m → l.length = m.length → Sub l m → siz m ≤ siz l → l = m
  | [], [], _, _, _, _, _ => rfl
  | [], _ :: _, _, _, h, _, _ => by simp at h
  | _ :: _, [], _, _, h, _, _ => by simp at h
  | d :: l, e :: m, hl, hm, h, hs, hc => by
    have h1 := cnt_le hs.cons.1
    have h2 := siz_le (l := l) (m := m) (by simpa using h) hs.cons.2
    simp only [siz] at hc
    rw [cnt_eq (hl _ List.mem_cons_self) (hm _ List.mem_cons_self) hs.cons.1 (by omega), siz_eq (fun x hx => hl x (List.mem_cons_of_mem _ hx)) (fun x hx => hm x (List.mem_cons_of_mem _ hx)) (by simpa using h) hs.cons.2 (by omega)]
theorem keep_siz (p : PropS) (l : List Dm) (hl : VDs l) (hv : VarsOk p.vars l.length) : siz (keepS p l) ≤ siz l ∧ (lessS p l = true → siz (keepS p l) < siz l) := by
  have hs : Sub (keepS p l) l := fun x v h => keep_sub p l hl hv h
  have h1 := siz_le (keepS_len p l) hs
  refine ⟨h1, fun h => ?_⟩
  have hne := (less_iff p l hl hv).1 h
  apply Classical.byContradiction
  intro hge
  exact hne (siz_eq (keepS_vd p hl) hl (keepS_len p l) hs (by omega))

/-! ### Fixpoints -/
def failedB (l : List Dm) : Bool := l.any fun d => decide (d = [])
noncomputable def rnd : List PropS → List Dm → Bool → Option (List Dm × Bool)
  | [], l, q => some (l, q)
  | p :: ps, l, q => if failedB l then none else rnd ps (keepS p l) (q || lessS p l)
inductive FixR (props : List PropS) : List Dm → Option (List Dm) → Prop
  | fail {l : List Dm} : rnd props l false = none → FixR props l none
  | stop {l l' : List Dm} : rnd props l false = some (l', false) → FixR props l (if failedB l' then none else some l')
  | more {l l' : List Dm} {r : Option (List Dm)} : rnd props l false = some (l', true) → FixR props l' r → FixR props l r
theorem FixR.det {props : List PropS} {l : List Dm} {r s : Option (List Dm)} (h : FixR props l r) : FixR props l s → r = s := by
  induction h with
  | fail h => intro k; cases k with
    | fail _ => rfl
    | stop k => rw [h] at k; cases k
    | more k _ => rw [h] at k; cases k
  | stop h => intro k; cases k with
    | fail k => rw [h] at k; cases k
    | stop k => rw [h] at k; cases k; rfl
    | more k _ => rw [h] at k; cases k
  | more h _ ih => intro k; cases k with
    | fail k => rw [h] at k; cases k
    | stop k => rw [h] at k; cases k
    | more k k2 => rw [h] at k; cases k; exact ih k2
end Go.Proofs.Ytggfnakhmjkoeaa

namespace Go.Proofs.Ytggfnakhmjkoeaa
open Go Go.V Go.Proofs
open Go.RowKit (Below)
/-! manystrand/domain.usable -/
def N56 (a1 : Option Addr) (l1 : Nat) (_c1 : Nat) (a2 : Option Addr) (l2 : Nat) (c2 : Nat) (K : Bool → World → Prop) (w : World) : Prop :=
  Calls Try.prog 50 #[(.slice a2 l2 c2)] w fun e5 w4 =>
  ∃ (p3 : Bool), e5 = .returned (.bool p3) ∧
  (BoolK (!p3)
    (K false w4)
    (BoolK (decide (((l1 : Nat) : Int) > 100))
      (K false w4)
      (∃ (I6 : Int → World → Prop) (μ7 : Int → World → Nat),
        (I6 0 w4 ∧ True) ∧
        ∀ (w8 : World) (x9 : Int), I6 x9 w8 →
        BoolK (decide ((x9 : Int) < (l1 : Nat)))
        ((0 ≤ (x9 : Int) ∧ (x9 : Int) < (l1 : Nat)) ∧
          AddrK a1 fun b10 =>
          ∃ (s11 : ByteArray), w8.cell? ((b10.add ((x9 : Int).toNat * 4)).add 0) = some (.string s11) ∧
          (∃ (a12 : Option Addr) (l12 : Nat) (c12 : Nat), w8.cell? ((b10.add ((x9 : Int).toNat * 4)).add 1) = some (.slice a12 l12 c12) ∧
            (∃ (a13 : Option Addr) (l13 : Nat) (c13 : Nat), w8.cell? ((b10.add ((x9 : Int).toNat * 4)).add 2) = some (.slice a13 l13 c13) ∧
              (∃ (x14 : Int), w8.cell? ((b10.add ((x9 : Int).toNat * 4)).add 3) = some (.int .i64 x14) ∧
                (AllocK w8 (#[.string ⟨#[]⟩, .slice none 0 0, .slice none 0 0, .int .i64 0]) 24 fun b15 w16 =>
                  SetK w16 (b15.add 0) (.string s11) fun w17 =>
                  SetK w17 (b15.add 1) (.slice a12 l12 c12) fun w18 =>
                  SetK w18 (b15.add 2) (.slice a13 l13 c13) fun w19 =>
                  SetK w19 (b15.add 3) (.int .i64 x14) fun w20 =>
                  ∃ (s21 : ByteArray), w20.cell? (b15.add 0) = some (.string s21) ∧
                  (∃ (a22 : Option Addr) (l22 : Nat) (c22 : Nat), w20.cell? (b15.add 1) = some (.slice a22 l22 c22) ∧
                    (∃ (a23 : Option Addr) (l23 : Nat) (c23 : Nat), w20.cell? (b15.add 2) = some (.slice a23 l23 c23) ∧
                      (∃ (x24 : Int), w20.cell? (b15.add 3) = some (.int .i64 x24) ∧
                        (Calls Try.prog 16 #[(.agg #[(.string s21), (.slice a22 l22 c22), (.slice a23 l23 c23), (.int .i64 x24)]), (.int .i64 (l2 : Nat))] w20 fun e27 w26 =>
                          ∃ (p25 : Bool), e27 = .returned (.bool p25) ∧
                          (BoolK (!p25)
                            (K false w26)
                            (I6 (IntKind.wrap .i64 (x9 + 1)) w26 ∧ μ7 (IntKind.wrap .i64 (x9 + 1)) w26 < μ7 x9 w8)))))))))))
        (K true w8))))
def ann56 : Ann := (.two .nil (.two (.two .nil (.two (.two .nil .nil) .nil)) (.two (.two .nil (.one (.loop [(17, (.one (.int .i64)))] [1, 15, 16] (.two .nil (.two (.two .nil .nil) (.two (.one (.two .nil (.two .nil (.two (.two .nil .nil) .nil)))) .nil)))))) (.two .nil .nil))))
noncomputable def code56 : Code := match Try.f56.body with | some c => c | none => .skip
theorem wp56 (a1 : Option Addr) (l1 : Nat) (c1 : Nat) (a2 : Option Addr) (l2 : Nat) (c2 : Nat) (K : Bool → World → Prop) (w : World) : WP Try.prog tab code56 ann56 (fnQ tab Try.f56.results.toList [(.one .bool)] K) (argE 0 [(.slice a1 l1 c1), (.slice a2 l2 c2)]) w = N56 a1 l1 c1 a2 l2 c2 K w := by kernel_rfl
theorem calls56 (a1 : Option Addr) (l1 : Nat) (c1 : Nat) (a2 : Option Addr) (l2 : Nat) (c2 : Nat) (K : Bool → World → Prop) (w : World) (h : N56 a1 l1 c1 a2 l2 c2 K w) : Calls Try.prog 56 #[(.slice a1 l1 c1), (.slice a2 l2 c2)] w fun en w' => ∃ (p28 : Bool), en = .returned (.bool p28) ∧ K p28 w' :=
  have e : (fun en w' => ExShs [(.one .bool)] fun vs => en = .returned (tupled vs) ∧ ap [(.one .bool)] K vs fun p => p w') = (fun (en : Ending) (w' : World) => ∃ (p28 : Bool), en = .returned (.bool p28) ∧ K p28 w') := by kernel_rfl
  e ▸ fn_sound tabOk mixed Try.func56 (by kernel_rfl : Try.f56.body = some code56) ann56 [(.slice a1 l1 c1), (.slice a2 l2 c2)] [(.one .bool)] K w (by kernel_rfl) ((wp56 a1 l1 c1 a2 l2 c2 K w).symm ▸ h)
end Go.Proofs.Ytggfnakhmjkoeaa

namespace Go.Proofs.Ytggfnakhmjkoeaa
open Go Go.V Go.Proofs
open Go.RowKit (Below)
/-! manystrand/domain.failed -/
def N58 (a1 : Option Addr) (l1 : Nat) (_c1 : Nat) (K : Bool → World → Prop) (w : World) : Prop :=
  ∃ (I2 : Int → World → Prop) (μ3 : Int → World → Nat),
  (I2 0 w ∧ True) ∧
  ∀ (w4 : World) (x5 : Int), I2 x5 w4 →
  BoolK (decide ((x5 : Int) < (l1 : Nat)))
  ((0 ≤ (x5 : Int) ∧ (x5 : Int) < (l1 : Nat)) ∧
    AddrK a1 fun b6 =>
    ∃ (a7 : Option Addr) (l7 : Nat) (c7 : Nat), w4.cell? (b6.add ((x5 : Int).toNat * 1)) = some (.slice a7 l7 c7) ∧
    (BoolK (((l7 : Nat) : Int) == 0)
      (K true w4)
      (I2 (IntKind.wrap .i64 (x5 + 1)) w4 ∧ μ3 (IntKind.wrap .i64 (x5 + 1)) w4 < μ3 x5 w4)))
  (K false w4)
def ann58 : Ann := (.two .nil (.two (.two .nil (.one (.loop [(7, (.one (.int .i64)))] [5, 6] (.two .nil (.two (.two .nil .nil) (.two (.one (.two .nil (.two .nil (.two (.two .nil .nil) .nil)))) .nil)))))) (.two .nil .nil)))
noncomputable def code58 : Code := match Try.f58.body with | some c => c | none => .skip
theorem wp58 (a1 : Option Addr) (l1 : Nat) (c1 : Nat) (K : Bool → World → Prop) (w : World) : WP Try.prog tab code58 ann58 (fnQ tab Try.f58.results.toList [(.one .bool)] K) (argE 0 [(.slice a1 l1 c1)]) w = N58 a1 l1 c1 K w := by kernel_rfl
theorem calls58 (a1 : Option Addr) (l1 : Nat) (c1 : Nat) (K : Bool → World → Prop) (w : World) (h : N58 a1 l1 c1 K w) : Calls Try.prog 58 #[(.slice a1 l1 c1)] w fun en w' => ∃ (p8 : Bool), en = .returned (.bool p8) ∧ K p8 w' :=
  have e : (fun en w' => ExShs [(.one .bool)] fun vs => en = .returned (tupled vs) ∧ ap [(.one .bool)] K vs fun p => p w') = (fun (en : Ending) (w' : World) => ∃ (p8 : Bool), en = .returned (.bool p8) ∧ K p8 w') := by kernel_rfl
  e ▸ fn_sound tabOk mixed Try.func58 (by kernel_rfl : Try.f58.body = some code58) ann58 [(.slice a1 l1 c1)] [(.one .bool)] K w (by kernel_rfl) ((wp58 a1 l1 c1 K w).symm ▸ h)
end Go.Proofs.Ytggfnakhmjkoeaa

namespace Go.Proofs.Ytggfnakhmjkoeaa
open Go Go.V Go.Proofs
open Go.RowKit (Below)
/-! manystrand/domain.Fix -/
def N19 (a1 : Option Addr) (l1 : Nat) (c1 : Nat) (a2 : Option Addr) (l2 : Nat) (c2 : Nat) (K : Option Addr → Nat → Nat → Int → World → Prop) (w : World) : Prop :=
  Calls Try.prog 56 #[(.slice a1 l1 c1), (.slice a2 l2 c2)] w fun e5 w4 =>
  ∃ (p3 : Bool), e5 = .returned (.bool p3) ∧
  (BoolK (!p3)
    (K none 0 0 2 w4)
    (Calls Try.prog 57 #[(.slice a2 l2 c2)] w4 fun e8 w7 =>
      ∃ (a6 : Option Addr), ∃ (l6 : Nat), ∃ (c6 : Nat), e8 = .returned (.slice a6 l6 c6) ∧
      (∃ (I9 : Option Addr → Nat → Nat → Bool → World → Prop) (μ10 : Option Addr → Nat → Nat → Bool → World → Nat),
        (I9 a6 l6 c6 true w7 ∧ True) ∧
        ∀ (w11 : World) (a12 : Option Addr) (l12 : Nat) (c12 : Nat) (p13 : Bool), I9 a12 l12 c12 p13 w11 →
        BoolK p13
        (∃ (I14 : Option Addr → Nat → Nat → Bool → Int → World → Prop) (μ15 : Option Addr → Nat → Nat → Bool → Int → World → Nat),
          (I14 a12 l12 c12 false 0 w11 ∧ True) ∧
          ∀ (w16 : World) (a17 : Option Addr) (l17 : Nat) (c17 : Nat) (p18 : Bool) (x19 : Int), I14 a17 l17 c17 p18 x19 w16 →
          BoolK (decide ((x19 : Int) < (l1 : Nat)))
          ((0 ≤ (x19 : Int) ∧ (x19 : Int) < (l1 : Nat)) ∧
            AddrK a1 fun b20 =>
            ∃ (s21 : ByteArray), w16.cell? ((b20.add ((x19 : Int).toNat * 4)).add 0) = some (.string s21) ∧
            (∃ (a22 : Option Addr) (l22 : Nat) (c22 : Nat), w16.cell? ((b20.add ((x19 : Int).toNat * 4)).add 1) = some (.slice a22 l22 c22) ∧
              (∃ (a23 : Option Addr) (l23 : Nat) (c23 : Nat), w16.cell? ((b20.add ((x19 : Int).toNat * 4)).add 2) = some (.slice a23 l23 c23) ∧
                (∃ (x24 : Int), w16.cell? ((b20.add ((x19 : Int).toNat * 4)).add 3) = some (.int .i64 x24) ∧
                  (AllocK w16 (#[.string ⟨#[]⟩, .slice none 0 0, .slice none 0 0, .int .i64 0]) 24 fun b25 w26 =>
                    SetK w26 (b25.add 0) (.string s21) fun w27 =>
                    SetK w27 (b25.add 1) (.slice a22 l22 c22) fun w28 =>
                    SetK w28 (b25.add 2) (.slice a23 l23 c23) fun w29 =>
                    SetK w29 (b25.add 3) (.int .i64 x24) fun w30 =>
                    Calls Try.prog 58 #[(.slice a17 l17 c17)] w30 fun e33 w32 =>
                    ∃ (p31 : Bool), e33 = .returned (.bool p31) ∧
                    (BoolK p31
                      (K none 0 0 60 w32)
                      (∃ (s34 : ByteArray), w32.cell? (b25.add 0) = some (.string s34) ∧
                        (∃ (a35 : Option Addr) (l35 : Nat) (c35 : Nat), w32.cell? (b25.add 1) = some (.slice a35 l35 c35) ∧
                          (∃ (a36 : Option Addr) (l36 : Nat) (c36 : Nat), w32.cell? (b25.add 2) = some (.slice a36 l36 c36) ∧
                            (∃ (x37 : Int), w32.cell? (b25.add 3) = some (.int .i64 x37) ∧
                              (Calls Try.prog 51 #[(.agg #[(.string s34), (.slice a35 l35 c35), (.slice a36 l36 c36), (.int .i64 x37)]), (.slice a17 l17 c17)] w32 fun e41 w40 =>
                                ∃ (a38 : Option Addr), ∃ (l38 : Nat), ∃ (c38 : Nat), ∃ (p39 : Bool), e41 = .returned (.tuple #[(.slice a38 l38 c38), (.bool p39)]) ∧
                                (BoolK p18
                                  (I14 a38 l38 c38 true (IntKind.wrap .i64 (x19 + 1)) w40 ∧ μ15 a38 l38 c38 true (IntKind.wrap .i64 (x19 + 1)) w40 < μ15 a17 l17 c17 p18 x19 w16)
                                  (I14 a38 l38 c38 p39 (IntKind.wrap .i64 (x19 + 1)) w40 ∧ μ15 a38 l38 c38 p39 (IntKind.wrap .i64 (x19 + 1)) w40 < μ15 a17 l17 c17 p18 x19 w16)))))))))))))
          (I9 a17 l17 c17 p18 w16 ∧ μ10 a17 l17 c17 p18 w16 < μ10 a12 l12 c12 p13 w11))
        (Calls Try.prog 58 #[(.slice a12 l12 c12)] w11 fun e44 w43 =>
          ∃ (p42 : Bool), e44 = .returned (.bool p42) ∧
          (BoolK p42
            (K none 0 0 60 w43)
            (K a12 l12 c12 0 w43))))))
def ann19 : Ann := (.two .nil (.two (.two .nil (.two (.two .nil .nil) .nil)) (.two .nil (.two (.two .nil (.one (.loop [(6, (.one .slice)), (7, (.one .bool))] [0] (.two (.two .nil (.two .nil .nil)) (.one (.two .nil (.two .nil (.one (.loop [(6, (.one .slice)), (7, (.one .bool)), (21, (.one (.int .i64)))] [0, 19, 20] (.two .nil (.two (.two .nil .nil) (.two (.one (.two .nil (.two (.two .nil (.two (.two .nil .nil) .nil)) (.two .nil .nil)))) .nil)))))))))))) (.two (.two .nil (.two (.two .nil .nil) .nil)) (.two .nil .nil))))))
noncomputable def code19 : Code := match Try.f19.body with | some c => c | none => .skip
theorem wp19 (a1 : Option Addr) (l1 : Nat) (c1 : Nat) (a2 : Option Addr) (l2 : Nat) (c2 : Nat) (K : Option Addr → Nat → Nat → Int → World → Prop) (w : World) : WP Try.prog tab code19 ann19 (fnQ tab Try.f19.results.toList [(.one .slice), (.one (.int .i64))] K) (argE 0 [(.slice a1 l1 c1), (.slice a2 l2 c2)]) w = N19 a1 l1 c1 a2 l2 c2 K w := by kernel_rfl
theorem calls19 (a1 : Option Addr) (l1 : Nat) (c1 : Nat) (a2 : Option Addr) (l2 : Nat) (c2 : Nat) (K : Option Addr → Nat → Nat → Int → World → Prop) (w : World) (h : N19 a1 l1 c1 a2 l2 c2 K w) : Calls Try.prog 19 #[(.slice a1 l1 c1), (.slice a2 l2 c2)] w fun en w' => ∃ (a45 : Option Addr), ∃ (l45 : Nat), ∃ (c45 : Nat), ∃ (x46 : Int), en = .returned (.tuple #[(.slice a45 l45 c45), (.int .i64 x46)]) ∧ K a45 l45 c45 x46 w' :=
  have e : (fun en w' => ExShs [(.one .slice), (.one (.int .i64))] fun vs => en = .returned (tupled vs) ∧ ap [(.one .slice), (.one (.int .i64))] K vs fun p => p w') = (fun (en : Ending) (w' : World) => ∃ (a45 : Option Addr), ∃ (l45 : Nat), ∃ (c45 : Nat), ∃ (x46 : Int), en = .returned (.tuple #[(.slice a45 l45 c45), (.int .i64 x46)]) ∧ K a45 l45 c45 x46 w') := by kernel_rfl
  e ▸ fn_sound tabOk mixed Try.func19 (by kernel_rfl : Try.f19.body = some code19) ann19 [(.slice a1 l1 c1), (.slice a2 l2 c2)] [(.one .slice), (.one (.int .i64))] K w (by kernel_rfl) ((wp19 a1 l1 c1 a2 l2 c2 K w).symm ▸ h)
end Go.Proofs.Ytggfnakhmjkoeaa

namespace Go.Proofs.Ytggfnakhmjkoeaa
open Go Go.V Go.Proofs
open Go.RowKit (Below)

/-- a local variable of four cells: made, then filled -/
theorem local4 {w : World} {z0 z1 z2 z3 v0 v1 v2 v3 : Value} {t : Nat} {F : Addr → World → Prop}
    (h : ∀ (b : Nat) (w' : World), b = w.heap.size → Blk w' b #[v0, v1, v2, v3] t → Ext w w' → F ⟨b, 0, none⟩ w') :
    AllocK w #[z0, z1, z2, z3] t fun b w1 => SetK w1 (b.add 0) v0 fun w2 => SetK w2 (b.add 1) v1 fun w3 => SetK w3 (b.add 2) v2 fun w4 => SetK w4 (b.add 3) v3 fun w5 => F b w5 := by
  refine AllocK.mk fun b w1 hb h1 hx => ?_
  rw [add_mk, add_mk, add_mk, add_mk]
  refine SetK.mk h1 (by simp) fun w2 h2 g2 => SetK.mk h2 (by simp) fun w3 h3 g3 => SetK.mk h3 (by simp) fun w4 h4 g4 => SetK.mk h4 (by simp) fun w5 h5 g5 => ?_
  exact h b w5 hb (by simpa using h5) ((((g2.trans g3).trans g4).trans g5).below hx (by omega))

def RProp (w : World) (f : Cells) (p : PropS) : Prop :=
  ∃ s a2 l2 c2 a3 l3 c3 x4, f 0 = some (.string s) ∧ f 1 = some (.slice a2 l2 c2) ∧ f 2 = some (.slice a3 l3 c3) ∧ f 3 = some (.int .i64 x4) ∧ PropAt w s a2 l2 a3 l3 x4 p
theorem RProp.mono : Mono RProp := fun _ _ _ _ _ e h ⟨s, a2, l2, c2, a3, l3, c3, x4, h0, h1, h2, h3, h4⟩ => ⟨s, a2, l2, c2, a3, l3, c3, x4, h _ _ h0, h _ _ h1, h _ _ h2, h _ _ h3, h4.ext e⟩
abbrev Props (w : World) (a : Option Addr) (l : Nat) (ps : List PropS) : Prop := Go.V.Rows 4 RProp w a l ps
theorem propAt {w : World} {a : Option Addr} {l : Nat} {ps : List PropS} (h : Props w a l ps) (w' : World) (k : Ext w w') {i : Nat} (hi : i < ps.length) :
    ∃ b o s a2 l2 c2 a3 l3 c3 x4, a = some ⟨b, o, none⟩ ∧ w'.cell? ⟨b, o + i * 4, none⟩ = some (.string s) ∧ w'.cell? ⟨b, o + i * 4 + 1, none⟩ = some (.slice a2 l2 c2) ∧ w'.cell? ⟨b, o + i * 4 + 2, none⟩ = some (.slice a3 l3 c3) ∧
      w'.cell? ⟨b, o + i * 4 + 3, none⟩ = some (.int .i64 x4) ∧ PropAt w' s a2 l2 a3 l3 x4 ps[i] := by
  obtain ⟨b, o, ha, s, a2, l2, c2, a3, l3, c3, x4, h0, h1, h2, h3, h4⟩ := (h.ext RProp.mono k).get hi
  exact ⟨b, o, s, a2, l2, c2, a3, l3, c3, x4, ha, by simpa using h0, h1, h2, h3, h4⟩

theorem c58 (w : World) (a : Option Addr) (l c : Nat) (ds : List Dm) (h : Doms w a l ds) (hl : ds.length ≤ 9223372036854775807) :
    Calls Try.prog 58 #[.slice a l c] w fun en w' => ∃ p, en = .returned (.bool p) ∧ (p = failedB ds ∧ Ext w w') := by
  refine calls58 a l c _ w ?_
  have e1 := h.1
  refine ⟨fun i w' => ∃ k : Nat, i = k ∧ k ≤ ds.length ∧ (ds.take k).any (fun d => decide (d = [])) = false ∧ Ext w w', fun i _ => ds.length - i.toNat, ⟨⟨0, rfl, by omega, rfl, Ext.refl w⟩, trivial⟩, ?_⟩
  rintro w4 i ⟨k, rfl, hk, hv, hB⟩
  refine BoolK.mk (fun hlt => ?_) (fun hge => ?_)
  · have hlt : k < ds.length := by simp at hlt; omega
    obtain ⟨b1, o1, a1, l1, c1, rfl, h0, h1⟩ := domsAt h w4 hB hlt
    have hl1 := h1.1
    refine ⟨by omega, ?_⟩
    simp only [AddrK, Int.toNat_natCast, add_mk, Nat.mul_one]
    refine ⟨_, _, _, h0, BoolK.mk (fun t => ?_) (fun t => ?_)⟩
    · have he : ds[k] = [] := by apply List.length_eq_zero_iff.1; simp at t; omega
      exact ⟨(any_true (p := fun d => decide (d = [])) hlt (by rw [he]; rfl)).symm, hB⟩
    · have he : ds[k] ≠ [] := fun e => by rw [e] at hl1; simp at t; simp at hl1; omega
      rw [wrap_succ (by omega)]
      exact ⟨⟨k + 1, rfl, by omega, by rw [any_take hlt, hv, decide_eq_false he]; rfl, hB⟩, by simp; omega⟩
  · have : k = ds.length := by simp at hge; omega
    subst this
    rw [List.take_length] at hv
    exact ⟨hv.symm, hB⟩

def usableB (ps : List PropS) (ls : List Dm) : Bool := allVB ls && (decide (ps.length ≤ 100) && ps.all fun p => propB p ls.length)

theorem c56 (w : World) (a : Option Addr) (l c : Nat) (ps : List PropS) (hp : Props w a l ps) (a2 : Option Addr) (l2 c2 : Nat) (ls : List Dm) (h : Doms w a2 l2 ls) (hl : ls.length ≤ 9223372036854775807) (hs : ∀ d ∈ ls, Sm d) :
    Calls Try.prog 56 #[.slice a l c, .slice a2 l2 c2] w fun en w' => ∃ p, en = .returned (.bool p) ∧ (p = usableB ps ls ∧ Ext w w') := by
  refine calls56 _ _ _ _ _ _ _ w ?_
  have e1 := h.1
  have e2 := hp.1
  refine (c50 w a2 l2 c2 ls h hl hs).mono ?_
  rintro en w4 ⟨q, rfl, rfl, hx4⟩
  refine ⟨_, rfl, BoolK.mk (fun t => ?_) (fun t => ?_)⟩
  · simp at t; exact ⟨by rw [usableB, t]; rfl, hx4⟩
  simp at t
  rw [usableB, t, Bool.true_and]
  refine BoolK.mk (fun t => ?_) (fun t => ?_)
  · simp at t; exact ⟨by rw [decide_eq_false (by omega)]; rfl, hx4⟩
  simp at t
  rw [decide_eq_true (by omega), Bool.true_and]
  refine ⟨fun i w' => ∃ k : Nat, i = k ∧ k ≤ ps.length ∧ (ps.take k).all (fun p => propB p ls.length) = true ∧ Ext w w', fun i _ => ps.length - i.toNat, ⟨⟨0, rfl, by omega, rfl, hx4⟩, trivial⟩, ?_⟩
  rintro w8 i ⟨k, rfl, hk, hv, hB⟩
  refine BoolK.mk (fun hlt => ?_) (fun hge => ?_)
  · have hlt : k < ps.length := by simp at hlt; omega
    obtain ⟨b1, o1, s, a2', l2', c2', a3, l3, c3, x4, rfl, h0, h1, h2, h3, hP⟩ := propAt hp w8 hB hlt
    refine ⟨by omega, ?_⟩
    simp only [AddrK, Int.toNat_natCast, add_mk, Nat.add_zero]
    refine ⟨_, h0, _, _, _, h1, _, _, _, h2, _, h3, ?_⟩
    refine local4 (fun b w20 hb hblk hx => ?_)
    obtain ⟨g0, g1, g2, g3⟩ := cell4 hblk
    simp only [add_mk, Nat.zero_add]
    refine ⟨_, g0, _, _, _, g1, _, _, _, g2, _, g3, ?_⟩
    rw [e1]
    refine (c16 w20 _ _ _ _ _ _ _ _ _ _ (hP.ext hx)).mono ?_
    rintro en w26 ⟨q, rfl, rfl, hx26⟩
    have hx' := hB.trans (hx.trans hx26)
    refine ⟨_, rfl, BoolK.mk (fun t => ?_) (fun t => ?_)⟩
    · simp at t; exact ⟨(all_false hlt t).symm, hx'⟩
    · simp at t
      rw [wrap_succ (by omega)]
      exact ⟨⟨k + 1, rfl, by omega, by rw [all_take hlt, hv, t]; rfl, hx'⟩, by simp; omega⟩
  · have : k = ps.length := by simp at hge; omega
    subst this
    rw [List.take_length] at hv
    exact ⟨hv.symm, hB⟩

theorem varsOk_of {p : PropS} {n : Nat} (h : propB p n = true) : VarsOk p.vars n := fun j hj => by
  simp only [propB, Bool.and_eq_true, decide_eq_true_eq] at h
  have := List.all_eq_true.1 h.1.2 _ (List.getElem_mem hj)
  simp at this
  rw [px, getD_get hj]; omega
theorem allVB_of {ls : List Dm} (h : allVB ls = true) : VDs ls ∧ ls.length ≤ 40 := by
  simp only [allVB, Bool.and_eq_true, decide_eq_true_eq, List.all_eq_true] at h
  exact ⟨fun d hd => (validB_iff d).1 (h.1 d hd), h.2⟩

/-- two lists that stand at the same place are the same -/
theorem Rows.uniq {α : Type} {sz : Nat} {R : World → Cells → α → Prop} (hR : ∀ w f x y, R w f x → R w f y → x = y) {w : World} {a : Option Addr} {l : Nat} {xs ys : List α} (h : Go.V.Rows sz R w a l xs) (k : Go.V.Rows sz R w a l ys) : xs = ys := by
  have hl : xs.length = ys.length := h.1.symm.trans k.1
  apply List.ext_getElem hl
  intro i h1 h2
  obtain ⟨b, o, ha, hx⟩ := h.get h1
  obtain ⟨b', o', ha', hy⟩ := k.get h2
  rw [ha] at ha'; simp at ha'; obtain ⟨rfl, rfl⟩ := ha'
  exact hR _ _ _ _ hx hy
theorem RPair.uniq (w : World) (f : Cells) (x y : Int × Int) (h : RPair w f x) (k : RPair w f y) : x = y := by
  have e0 := h.1.symm.trans k.1
  have e1 := h.2.symm.trans k.2
  simp at e0 e1; exact Prod.ext e0 e1
theorem Doms.uniq {w : World} {a : Option Addr} {l : Nat} {xs ys : List Dm} (h : Doms w a l xs) (k : Doms w a l ys) : xs = ys :=
  Rows.uniq (fun w f x y hx hy => by
    obtain ⟨a1, l1, c1, h0, h1⟩ := hx
    obtain ⟨a2, l2, c2, g0, g1⟩ := hy
    rw [h0] at g0; simp at g0; obtain ⟨rfl, rfl, rfl⟩ := g0
    exact Rows.uniq RPair.uniq h1 g1) h k
open Classical in
/-- how much there is yet to do -/
noncomputable def meas (w : World) (a : Option Addr) (l : Nat) (p : Bool) : Nat := (if h : ∃ ds, Doms w a l ds then 2 * siz h.choose else 0) + if p then 1 else 0
theorem meas_eq {w : World} {a : Option Addr} {l : Nat} {ds : List Dm} (h : Doms w a l ds) (p : Bool) : meas w a l p = 2 * siz ds + if p then 1 else 0 := by
  have hh : ∃ ds, Doms w a l ds := ⟨ds, h⟩
  unfold meas
  rw [dif_pos hh, Doms.uniq hh.choose_spec h]

/-- what Fix answers -/
def FixRes (ps : List PropS) (ls : List Dm) (base : Nat) (w' : World) (a : Option Addr) (l c : Nat) (e : Int) : Prop :=
  (usableB ps ls = false ∧ a = none ∧ l = 0 ∧ e = 2) ∨
  (usableB ps ls = true ∧ ∃ r, FixR ps ls r ∧ ((r = none ∧ a = none ∧ l = 0 ∧ e = 60) ∨ ∃ m, r = some m ∧ VDs m ∧ m.length = ls.length ∧ e = 0 ∧ DomsO base w' a l c m))

theorem c19 (w : World) (a : Option Addr) (l c : Nat) (ps : List PropS) (hp : Props w a l ps) (a2 : Option Addr) (l2 c2 : Nat) (ls : List Dm) (h : Doms w a2 l2 ls) (hl : ls.length ≤ 9223372036854775807) (hs : ∀ d ∈ ls, Sm d) :
    Calls Try.prog 19 #[.slice a l c, .slice a2 l2 c2] w fun en w' => ∃ a' l' c' e, en = .returned (.tuple #[.slice a' l' c', .int .i64 e]) ∧ (FixRes ps ls w.heap.size w' a' l' c' e ∧ Ext w w') := by
  refine calls19 _ _ _ _ _ _ _ w ?_
  refine (c56 w a l c ps hp a2 l2 c2 ls h hl hs).mono ?_
  rintro en w4 ⟨q, rfl, rfl, hx4⟩
  refine ⟨_, rfl, BoolK.mk (fun t => ?_) (fun t => ?_)⟩
  · simp at t; exact ⟨.inl ⟨t, rfl, rfl, rfl⟩, hx4⟩
  have hu : usableB ps ls = true := by simpa using t
  have ⟨hVD, h40, h100, hprops⟩ : VDs ls ∧ ls.length ≤ 40 ∧ ps.length ≤ 100 ∧ ∀ p ∈ ps, propB p ls.length = true := by
    simp only [usableB, Bool.and_eq_true, decide_eq_true_eq, List.all_eq_true] at hu
    have := allVB_of hu.1
    exact ⟨this.1, this.2, hu.2.1, hu.2.2⟩
  have e2 := hp.1
  refine (c57 w4 a2 l2 c2 ls (h.ext (RSl.mono RPair.mono) hx4) (by omega) (fun d hd => by have := (hVD d hd).len; omega)).mono ?_
  rintro en w7 ⟨a6, l6, c6, rfl, _, ho, hx7⟩
  have hx7' := hx4.trans hx7
  have hb4 := hx4.size
  refine ⟨_, _, _, rfl, ?_⟩
  refine ⟨fun a l c p w' => ∃ m, DomsO w.heap.size w' a l c m ∧ VDs m ∧ m.length = ls.length ∧ (p = true → ∀ r, FixR ps m r → FixR ps ls r) ∧ (p = false → FixR ps ls (if failedB m then none else some m)) ∧ Ext w w', fun a l _ p w' => meas w' a l p,
    ⟨⟨ls, by obtain ⟨S, e1, e2, e3⟩ := ho; exact ⟨S, e1, e2.mono hb4, e3⟩, hVD, rfl, fun _ r hr => hr, (fun hh => by cases hh), hx7'⟩, trivial⟩, ?_⟩
  rintro w11 a12 l12 c12 p13 ⟨m, hm, hmV, hmL, hT, hF, hx11⟩
  refine BoolK.mk (fun tp => ?_) (fun tp => ?_)
  · subst tp
    have hT := hT rfl
    clear hF
    refine ⟨fun a l c q x w' => ∃ (j : Nat) (m' : List Dm), x = j ∧ j ≤ ps.length ∧ DomsO w.heap.size w' a l c m' ∧ VDs m' ∧ m'.length = ls.length ∧ rnd (ps.drop j) m' q = rnd ps m false ∧ siz m' ≤ siz m ∧ (q = true → siz m' < siz m) ∧ Ext w w', fun _ _ _ _ x _ => ps.length - x.toNat,
      ⟨⟨0, m, rfl, by omega, hm, hmV, hmL, rfl, Nat.le_refl _, (fun hh => by cases hh), hx11⟩, trivial⟩, ?_⟩
    rintro w16 a17 l17 c17 p18 x19 ⟨j, m', rfl, hj, hm', hV', hL', hrnd, hsz, hsz2, hB⟩
    refine BoolK.mk (fun hlt => ?_) (fun hge => ?_)
    · have hlt : j < ps.length := by simp at hlt; omega
      obtain ⟨b1, o1, s, a2', l2', c2', a3, l3, c3, x4, rfl, h0, h1, h2, h3, hP⟩ := propAt hp w16 hB hlt
      refine ⟨by omega, ?_⟩
      simp only [AddrK, Int.toNat_natCast, add_mk, Nat.add_zero]
      refine ⟨_, h0, _, _, _, h1, _, _, _, h2, _, h3, ?_⟩
      refine local4 (fun b w30 hb hblk hx => ?_)
      refine (c58 w30 a17 l17 c17 m' (hm'.ext RPair.mono hx).doms (by omega)).mono ?_
      rintro en w32 ⟨q, rfl, rfl, hx32⟩
      have hx32' := hx.trans hx32
      have hB32 := hB.trans hx32'
      have hdrop : ps.drop j = ps[j] :: ps.drop (j + 1) := List.drop_eq_getElem_cons hlt
      rw [hdrop, rnd] at hrnd
      refine ⟨_, rfl, BoolK.mk (fun t => ?_) (fun t => ?_)⟩
      · rw [t, if_pos rfl] at hrnd
        exact ⟨.inr ⟨hu, none, hT _ (.fail hrnd.symm), .inl ⟨rfl, rfl, rfl, rfl⟩⟩, hB32⟩
      · rw [t] at hrnd
        simp only [Bool.false_eq_true, if_false] at hrnd
        obtain ⟨g0, g1, g2, g3⟩ := cell4 (hblk.ext hx32)
        simp only [add_mk, Nat.zero_add]
        refine ⟨_, g0, _, _, _, g1, _, _, _, g2, _, g3, ?_⟩
        have hpj : propB ps[j] m'.length = true := by rw [hL']; exact hprops _ (List.getElem_mem hlt)
        refine (c51 w32 _ _ _ _ _ _ _ _ _ (hP.ext hx32') a17 l17 c17 m' (hm'.ext RPair.mono hx32').doms hV' hpj).mono ?_
        rintro en w40 ⟨a38, l38, c38, q39, rfl, ho38, hq39, hx40⟩
        have hok : VarsOk ps[j].vars m'.length := varsOk_of hpj
        have ⟨k1, k2⟩ := keep_siz ps[j] m' hV' hok
        have ho' : DomsO w.heap.size w40 a38 l38 c38 (keepS ps[j] m') := by
          obtain ⟨S, e1, e2, e3⟩ := ho38; exact ⟨S, e1, e2.mono hB32.size, e3⟩
        have hlk : (keepS ps[j] m').length = ls.length := by rw [keepS_len]; exact hL'
        refine ⟨_, _, _, _, rfl, ?_⟩
        rw [wrap_succ (by omega)]
        refine BoolK.mk (fun t2 => ?_) (fun t2 => ?_)
        · have := hsz2 t2
          refine ⟨⟨j + 1, _, rfl, by omega, ho', keepS_vd _ hV', hlk, by rw [t2, Bool.true_or] at hrnd; exact hrnd, by omega, fun _ => by omega, hB32.trans hx40⟩, by simp; omega⟩
        · refine ⟨⟨j + 1, _, rfl, by omega, ho', keepS_vd _ hV', hlk, by rw [t2, Bool.false_or] at hrnd; rw [hq39]; exact hrnd, by omega, fun hh => by have := k2 (by rw [← hq39]; exact hh); omega, hB32.trans hx40⟩, by simp; omega⟩
    · have : j = ps.length := by simp at hge; omega
      subst this
      rw [List.drop_length, rnd] at hrnd
      refine ⟨⟨m', hm', hV', hL', fun hh r hr => hT r (.more (by rw [← hrnd, hh]) hr), fun hh => hT _ (.stop (by rw [← hrnd, hh])), hB⟩, ?_⟩
      show meas w16 a17 l17 p18 < meas w11 a12 l12 true
      rw [meas_eq hm'.doms, meas_eq hm.doms]
      cases p18 with
      | true => have := hsz2 rfl; simp; omega
      | false => simp; omega
  · subst tp
    have hF := hF rfl
    refine (c58 w11 a12 l12 c12 m hm.doms (by omega)).mono ?_
    rintro en w43 ⟨q, rfl, rfl, hx43⟩
    have hx := hx11.trans hx43
    refine ⟨_, rfl, BoolK.mk (fun t => ?_) (fun t => ?_)⟩
    · rw [t] at hF
      exact ⟨.inr ⟨hu, _, hF, .inl ⟨rfl, rfl, rfl, rfl⟩⟩, hx⟩
    · rw [t] at hF
      exact ⟨.inr ⟨hu, _, hF, .inr ⟨m, rfl, hmV, hmL, rfl, hm.ext RPair.mono hx43⟩⟩, hx⟩
end Go.Proofs.Ytggfnakhmjkoeaa

namespace Go.Proofs.Ytggfnakhmjkoeaa
open Go Go.V Go.Proofs
open Go.RowKit (Below)
/-! manystrand/manystrandlaw06.awake -/
def N12  (K : Bool → World → Prop) (w : World) : Prop :=
  AllocK w (#[(.int .i64 0), (.int .i64 1)]) 3 fun b1 w2 =>
  AllocK w2 (#[(.int .i64 1), (.int .i64 1)]) 3 fun b3 w4 =>
  AllocK w4 (#[(.string (⟨#[115, 117, 109]⟩ : ByteArray)), (.slice (some b1) 2 2), (.slice (some b3) 2 2), (.int .i64 3)]) 24 fun b5 w6 =>
  AllocK w6 (#[(.int .i64 0), (.int .i64 9)]) 55 fun b7 w8 =>
  AllocK w8 (#[(.int .i64 0), (.int .i64 9)]) 55 fun b9 w10 =>
  AllocK w10 (#[(.slice (some b7) 1 1), (.slice (some b9) 1 1)]) 38 fun b11 w12 =>
  Calls Try.prog 19 #[(.slice (some b5) 1 1), (.slice (some b11) 2 2)] w12 fun e16 w15 =>
  ∃ (a13 : Option Addr), ∃ (l13 : Nat), ∃ (c13 : Nat), ∃ (x14 : Int), e16 = .returned (.tuple #[(.slice a13 l13 c13), (.int .i64 x14)]) ∧
  (BoolK ((x14 : Int) == 0)
    (BoolK (((l13 : Nat) : Int) == 2)
      ((0 ≤ (0 : Int) ∧ (0 : Int) < (l13 : Nat)) ∧
        AddrK a13 fun b17 =>
        ∃ (a18 : Option Addr) (l18 : Nat) (c18 : Nat), w15.cell? (b17.add ((0 : Int).toNat * 1)) = some (.slice a18 l18 c18) ∧
        (AllocK w15 (#[(.int .i64 0), (.int .i64 3)]) 55 fun b19 w20 =>
          Calls Try.prog 26 #[(.slice a18 l18 c18), (.slice (some b19) 1 1)] w20 fun e23 w22 =>
          ∃ (p21 : Bool), e23 = .returned (.bool p21) ∧
          (BoolK p21
            ((0 ≤ (1 : Int) ∧ (1 : Int) < (l13 : Nat)) ∧
              AddrK a13 fun b24 =>
              ∃ (a25 : Option Addr) (l25 : Nat) (c25 : Nat), w22.cell? (b24.add ((1 : Int).toNat * 1)) = some (.slice a25 l25 c25) ∧
              (AllocK w22 (#[(.int .i64 0), (.int .i64 3)]) 55 fun b26 w27 =>
                Calls Try.prog 26 #[(.slice a25 l25 c25), (.slice (some b26) 1 1)] w27 fun e30 w29 =>
                ∃ (p28 : Bool), e30 = .returned (.bool p28) ∧
                (K p28 w29)))
            (K false w22))))
      (K false w15))
    (K false w15))
def ann12 : Ann := (.two .nil (.two .nil (.two .nil .nil)))
noncomputable def code12 : Code := match Try.f12.body with | some c => c | none => .skip
theorem wp12  (K : Bool → World → Prop) (w : World) : WP Try.prog tab code12 ann12 (fnQ tab Try.f12.results.toList [(.one .bool)] K) (argE 0 []) w = N12  K w := by kernel_rfl
theorem calls12  (K : Bool → World → Prop) (w : World) (h : N12  K w) : Calls Try.prog 12 #[] w fun en w' => ∃ (p31 : Bool), en = .returned (.bool p31) ∧ K p31 w' :=
  have e : (fun en w' => ExShs [(.one .bool)] fun vs => en = .returned (tupled vs) ∧ ap [(.one .bool)] K vs fun p => p w') = (fun (en : Ending) (w' : World) => ∃ (p31 : Bool), en = .returned (.bool p31) ∧ K p31 w') := by kernel_rfl
  e ▸ fn_sound tabOk mixed Try.func12 (by kernel_rfl : Try.f12.body = some code12) ann12 [] [(.one .bool)] K w (by kernel_rfl) ((wp12  K w).symm ▸ h)
end Go.Proofs.Ytggfnakhmjkoeaa

namespace Go.Proofs.Ytggfnakhmjkoeaa
open Go Go.V Go.Proofs
open Go.RowKit (Below)

def aP : PropS := ⟨⟨#[115, 117, 109]⟩, [0, 1], [1, 1], 3⟩
theorem kd_aP : kdOf aP.kind = .sum := by unfold kdOf; rw [if_pos (by simp [kb, aP])]
theorem aP_pass (l : List Dm) (i : Nat) (v : Int) : passP aP l i v = passS .sum [1, 1] 3 (bsOf aP l) i v := by rw [passP, kd_aP]; rfl
def aL0 : List Dm := [[(0, 9)], [(0, 9)]]
def aL1 : List Dm := [[(0, 3)], [(0, 3)]]
theorem stepsK_congr {p q : Nat → Int → Bool} (h : ∀ i v, p i v = q i v) (vars : List Int) (l : List Dm) (n : Nat) : stepsK p vars l n = stepsK q vars l n := by
  have : p = q := by funext i v; exact h i v
  rw [this]
theorem a_keep0 : keepS aP aL0 = aL1 := by
  have h : hasEmpty aP aL0 = false := by kernel_rfl
  have e : keepS aP aL0 = stepsK (passP aP aL0) aP.vars aL0 aP.vars.length := by rw [keepS, h]; rfl
  have e2 : stepsK (fun i v => passS .sum [1, 1] 3 (bsOf aP aL0) i v) aP.vars aL0 aP.vars.length = aL1 := by kernel_rfl
  exact e.trans ((stepsK_congr (aP_pass aL0) _ _ _).trans e2)
theorem a_keep1 : keepS aP aL1 = aL1 := by
  have h : hasEmpty aP aL1 = false := by kernel_rfl
  have e : keepS aP aL1 = stepsK (passP aP aL1) aP.vars aL1 aP.vars.length := by rw [keepS, h]; rfl
  have e2 : stepsK (fun i v => passS .sum [1, 1] 3 (bsOf aP aL1) i v) aP.vars aL1 aP.vars.length = aL1 := by kernel_rfl
  exact e.trans ((stepsK_congr (aP_pass aL1) _ _ _).trans e2)
theorem a_prop : propB aP 2 = true := by
  rw [propB, kd_aP]; kernel_rfl
theorem a_usable : usableB [aP] aL0 = true := by
  rw [usableB]
  have h1 : allVB aL0 = true := by kernel_rfl
  rw [h1]
  simp [show (aL0.length : Int) = 2 from rfl, a_prop]
theorem a_vd0 : VDs aL0 := (allVB_of (ls := aL0) (by kernel_rfl)).1
theorem a_vd1 : VDs aL1 := (allVB_of (ls := aL1) (by kernel_rfl)).1
theorem a_fix : FixR [aP] aL0 (some aL1) := by
  have hv0 : VarsOk aP.vars aL0.length := varsOk_of a_prop
  have hv1 : VarsOk aP.vars aL1.length := varsOk_of a_prop
  have l0 : lessS aP aL0 = true := (less_iff aP aL0 a_vd0 hv0).2 (by rw [a_keep0]; decide)
  have l1 : lessS aP aL1 = false := by
    rw [Bool.eq_false_iff]; intro h
    exact (less_iff aP aL1 a_vd1 hv1).1 h a_keep1
  have f0 : failedB aL0 = false := by kernel_rfl
  have f1 : failedB aL1 = false := by kernel_rfl
  refine .more (l' := aL1) ?_ ?_
  · rw [rnd, f0, if_neg (by simp), rnd, a_keep0, l0]; rfl
  · have : FixR [aP] aL1 (if failedB aL1 then none else some aL1) := .stop (by rw [rnd, f1, if_neg (by simp), rnd, a_keep1, l1]; rfl)
    rw [f1] at this; exact this

theorem Rows.lit {α : Type} {sz t : Nat} {R : World → Cells → α → Prop} {w : World} {b : Nat} {cs : Array Value} (h : Blk w b cs t) (xs : List α) (hx : ∀ (i : Nat) (x : α), xs[i]? = some x → R w (fun j => cs[i * sz + j]?) x) : Go.V.Rows sz R w (some ⟨b, 0, none⟩) xs.length xs := by
  refine ⟨rfl, .inr ⟨b, 0, rfl, fun i x hi => ?_⟩⟩
  have e : (fun j => w.cell? ⟨b, 0 + i * sz + j, none⟩) = fun j => cs[i * sz + j]? := by funext j; rw [h.cell, Nat.zero_add]
  rw [e]; exact hx i x hi
theorem dom_lit {w : World} {b t : Nat} {x y : Int} (h : Blk w b #[.int .i64 x, .int .i64 y] t) : Dom w (some ⟨b, 0, none⟩) 1 [(x, y)] :=
  Rows.lit h [(x, y)] fun i p hi => by
    have : i = 0 := by have := (List.getElem?_eq_some_iff.1 hi).1; simp at this; omega
    subst this; simp at hi; subst hi
    exact ⟨rfl, rfl⟩
theorem ints_lit2 {w : World} {b t : Nat} {x y : Int} (h : Blk w b #[.int .i64 x, .int .i64 y] t) : Ints w (some ⟨b, 0, none⟩) 2 [x, y] :=
  Rows.lit h [x, y] fun i p hi => by
    match i, hi with
    | 0, hi => simp at hi; subst hi; rfl
    | 1, hi => simp at hi; subst hi; rfl
    | i + 2, hi => simp at hi

theorem c12 (w : World) : Calls Try.prog 12 #[] w fun en w' => ∃ p, en = .returned (.bool p) ∧ (p = true ∧ Ext w w') := by
  refine calls12 _ w ?_
  refine AllocK.mk fun b1 w2 _ h1 x1 => AllocK.mk fun b3 w4 _ h3 x3 => AllocK.mk fun b5 w6 _ h5 x5 => AllocK.mk fun b7 w8 _ h7 x7 => AllocK.mk fun b9 w10 _ h9 x9 => AllocK.mk fun b11 w12 _ h11 x11 => ?_
  have hx12 : Ext w w12 := ((((x1.trans x3).trans x5).trans x7).trans x9).trans x11
  have X5 : Ext w6 w12 := (x7.trans x9).trans x11
  have hP : Props w12 (some ⟨b5, 0, none⟩) 1 [aP] := Rows.lit (h5.ext X5) [aP] fun i p hi => by
    have : i = 0 := by have := (List.getElem?_eq_some_iff.1 hi).1; simp at this; omega
    subst this; simp at hi; subst hi
    exact ⟨_, _, _, _, _, _, _, _, rfl, rfl, rfl, rfl, rfl, ints_lit2 (h1.ext ((x3.trans x5).trans X5)), ints_lit2 (h3.ext (x5.trans X5)), rfl, by simp [aP], by simp [aP]⟩
  have hD : Doms w12 (some ⟨b11, 0, none⟩) 2 aL0 := Rows.lit h11 aL0 fun i d hi => by
    match i, hi with
    | 0, hi => simp [aL0] at hi; subst hi; exact ⟨_, _, _, rfl, dom_lit (h7.ext (x9.trans x11))⟩
    | 1, hi => simp [aL0] at hi; subst hi; exact ⟨_, _, _, rfl, dom_lit (h9.ext x11)⟩
    | i + 2, hi => simp [aL0] at hi
  refine (c19 w12 _ 1 1 [aP] hP _ 2 2 aL0 hD (by simp [aL0]) (fun d hd => (a_vd0 d hd).sm)).mono ?_
  rintro en w15 ⟨a13, l13, c13, e, rfl, hres, hx15⟩
  refine ⟨_, _, _, _, rfl, ?_⟩
  rcases hres with ⟨hu, _⟩ | ⟨_, r, hr, hres⟩
  · rw [a_usable] at hu; cases hu
  have hr' := hr.det a_fix
  subst hr'
  rcases hres with ⟨h0, _⟩ | ⟨m, hm, _, _, rfl, ho⟩
  · cases h0
  cases hm
  have hl13 := ho.len
  have hl13' : l13 = 2 := hl13
  subst hl13'
  have hdoms := ho.doms
  have hx := hx12.trans hx15
  refine BoolK.mk (fun _ => ?_) (fun t => by simp at t)
  refine BoolK.mk (fun _ => ?_) (fun t => by simp at t)
  obtain ⟨b, o, a18, l18, c18, rfl, g0, d0⟩ := domsAt hdoms w15 (Ext.refl _) (i := 0) (by simp [aL1])
  refine ⟨by omega, ?_⟩
  simp only [AddrK, add_mk, Int.toNat_zero, Nat.zero_mul]
  refine ⟨_, _, _, g0, AllocK.mk fun b19 w20 _ h19 x19 => ?_⟩
  refine (c26 w20 _ _ _ _ _ _ _ [(0, 3)] (d0.ext RPair.mono x19) (dom_lit h19) (by simp [aL1])).mono ?_
  rintro en w22 ⟨q, rfl, hq, hx22⟩
  have hq : q = true := by rw [hq]; rfl
  subst hq
  refine ⟨_, rfl, BoolK.mk (fun _ => ?_) (fun t => by cases t)⟩
  have hx22' := x19.trans hx22
  obtain ⟨b', o', a25, l25, c25, ha, g1, d1⟩ := domsAt hdoms w22 hx22' (i := 1) (by simp [aL1])
  simp at ha; obtain ⟨rfl, rfl⟩ := ha
  refine ⟨by omega, ?_⟩
  simp only [Int.toNat_one]
  refine ⟨_, _, _, g1, AllocK.mk fun b26 w27 _ h26 x26 => ?_⟩
  refine (c26 w27 _ _ _ _ _ _ _ [(0, 3)] (d1.ext RPair.mono x26) (dom_lit h26) (by simp [aL1])).mono ?_
  rintro en w29 ⟨q, rfl, hq, hx29⟩
  have hq : q = true := by rw [hq]; rfl
  exact ⟨_, rfl, hq, hx.trans (hx22'.trans (x26.trans hx29))⟩
end Go.Proofs.Ytggfnakhmjkoeaa

namespace Go.V
open Go.RowKit (Below)

/-- the cells cs can be read at type t -/
def Rd {H : Type} (enc : TypeId × Value → H) (P : Program) (w : World) (t : TypeId) (cs : List Value) : Prop :=
  ∃ fuel x, DataW.trod enc P w 0 (fun _ => true) true fuel t cs = some x
section
variable {H : Type} {enc : TypeId × Value → H} {P : Program} {w : World}

theorem Rd.of {t : TypeId} {v : Value} {d : DataW H} {ps : List MemPlace} (h : DataW.Trod enc P w 0 (fun _ => true) true t v d ps) : Rd enc P w t v.cells.toList := by
  obtain ⟨f, hf⟩ := h; exact ⟨f, _, hf⟩
theorem Rd.int {t : TypeId} {k : IntKind} {cs : List Value} (ht : P.underlying t = some (.int k)) (h : Rd enc P w t cs) : ∃ n, cs = [.int k n] ∧ (Lit.int k n).wf = true := by
  obtain ⟨f, x, h⟩ := h
  obtain ⟨n, h1, _, h2⟩ := DataW.trod_int ht h
  exact ⟨n, h1, h2⟩
theorem Rd.string {t : TypeId} {cs : List Value} (ht : P.underlying t = some .string) (h : Rd enc P w t cs) : ∃ s : ByteArray, cs = [.string s] ∧ s.size ≤ maxLen := by
  obtain ⟨f, x, h⟩ := h
  obtain ⟨s, h1, _, h2⟩ := DataW.trod_string ht h
  exact ⟨s, h1, h2⟩
theorem Rd.array {t e : TypeId} {n : Nat} {cs : List Value} (ht : P.underlying t = some (.array n e)) (h : Rd enc P w t cs) : cs.length = P.cellsOf t ∧ ∀ i, i < n → Rd enc P w e ((cs.drop (i * P.cellsOf e)).take (P.cellsOf e)) := by
  obtain ⟨f, x, h⟩ := h
  obtain ⟨xs, m, _, _, hl, hx, hf⟩ := DataW.trod_array ht h
  refine ⟨hl, fun i hi => ⟨m, xs[i]'(by omega), ?_⟩⟩
  rw [hf i hi, List.getElem?_eq_getElem]
theorem Rd.struct {t : TypeId} {fs : Array Field} {cs : List Value} (ht : P.underlying t = some (.struct fs)) (h : Rd enc P w t cs) : cs.length = P.cellsOf t ∧ ∀ (i : Nat) (f : Field), fs[i]? = some f → Rd enc P w f.type ((cs.drop f.offset).take (P.cellsOf f.type)) := by
  obtain ⟨fu, x, h⟩ := h
  obtain ⟨xs, n, _, _, hl, hlen, hf⟩ := DataW.trod_struct ht h
  refine ⟨hl, fun i f hi => ?_⟩
  have hi' : i < fs.size := (Array.getElem?_eq_some_iff.1 hi).1
  refine ⟨n, xs[i]'(by simpa [hlen] using hi'), ?_⟩
  have := hf i f (by simpa using hi)
  rw [this, List.getElem?_eq_getElem]

theorem Rd.slice {α : Type} {R : World → Cells → α → Prop} {t e : TypeId} {sz : Nat} {cs : List Value} (ht : P.underlying t = some (.slice e)) (hs : P.cellsOf e = sz) (hpos : 0 < sz)
    (hR : ∀ (f : Nat → Option Value) (cs' : List Value), cs'.length = sz → (∀ j, j < sz → f j = cs'[j]?) → Rd enc P w e cs' → ∃ x, R w f x) (h : Rd enc P w t cs) :
    ∃ a l c xs, cs = [.slice a l c] ∧ Rows sz R w a l xs ∧ l ≤ maxLen := by
  obtain ⟨fu, x, h⟩ := h
  rcases Go.Deep.open_slice ht h with ⟨rfl, _⟩ | ⟨a, len, cap, m, n, D, Pl, rfl, hb, hl, hm, hmm, rfl, hx⟩
  · exact ⟨none, 0, 0, [], rfl, Rows.nil _ _ _ _, by simp⟩
  rw [hs] at hx
  have hlm : len ≤ m := by rw [hmm]; split <;> omega
  rcases Nat.eq_zero_or_pos len with h0 | h0
  · subst h0
    exact ⟨some a, 0, cap, [], rfl, Rows.nil _ _ _ _, by simp⟩
  have hspot : a.spot = none := by
    obtain ⟨cs', h1, _⟩ := hx 0 (by omega)
    obtain ⟨_, hlen, hc⟩ := World.cells?_some h1
    have := hc 0 hpos
    rw [Nat.zero_mul, add_mk0, add_mk0, List.getElem?_eq_getElem (by omega)] at this
    exact World.cell?_spot this
  obtain ⟨b, o, s⟩ := a
  simp only at hspot
  subst hspot
  have each : ∀ i, i < len → ∃ x : α, R w (fun j => w.cell? ⟨b, o + i * sz + j, none⟩) x := fun i hi => by
    obtain ⟨cs', h1, h2⟩ := hx i (by omega)
    obtain ⟨_, hlen, hc⟩ := World.cells?_some h1
    refine hR _ cs' hlen (fun j hj => ?_) ⟨n, _, h2⟩
    have := hc j hj
    rw [add_mk, add_mk] at this
    exact this
  have : ∃ xs : List α, xs.length = len ∧ ∀ i x, xs[i]? = some x → R w (fun j => w.cell? ⟨b, o + i * sz + j, none⟩) x := by
    clear hx hlm hmm hl h
    induction len with
    | zero => omega
    | succ k ih =>
      obtain ⟨x, hxk⟩ := each k (by omega)
      rcases Nat.eq_zero_or_pos k with hk | hk
      · subst hk
        refine ⟨[x], rfl, fun i y hy => ?_⟩
        have : i = 0 := by have := (List.getElem?_eq_some_iff.1 hy).1; simp at this; omega
        subst this; simp at hy; subst hy; exact hxk
      · obtain ⟨xs, hl, hxs⟩ := ih hk (fun i hi => each i (by omega))
        refine ⟨xs ++ [x], by simp [hl], fun i y hy => ?_⟩
        rcases Nat.lt_or_ge i xs.length with h | h
        · rw [List.getElem?_append_left h] at hy; exact hxs i y hy
        · rw [List.getElem?_append_right h] at hy
          have hi : i = k := by have := (List.getElem?_eq_some_iff.1 hy).1; simp at this; omega
          subst hi
          rw [hl, Nat.sub_self] at hy; simp at hy; subst hy; exact hxk
  obtain ⟨xs, hl', hxs⟩ := this
  exact ⟨_, len, cap, xs, rfl, ⟨hl'.symm, .inr ⟨b, o, rfl, hxs⟩⟩, by omega⟩
end
end Go.V

namespace Go.Proofs.Ytggfnakhmjkoeaa
open Go Go.V Go.Proofs
open Go.RowKit (Below)
section
variable {H : Type} {enc : TypeId × Value → H} {w : World}

/-- a number of 64 bits -/
def I64 (n : Int) : Prop := -9223372036854775808 ≤ n ∧ n ≤ 9223372036854775807
theorem i64_of {n : Int} (h : (Lit.int .i64 n).wf = true) : I64 n := by
  simp [Lit.wf, IntKind.min, IntKind.max, IntKind.signed, IntKind.bits] at h
  exact ⟨h.1, by omega⟩
/-- the same, of a pair in memory -/
def RPair64 (w : World) (f : Cells) (x : Int × Int) : Prop := RPair w f x ∧ I64 x.1 ∧ I64 x.2
def RInt64 (w : World) (f : Cells) (x : Int) : Prop := RInt w f x ∧ I64 x
theorem RPair64.mono : Mono RPair64 := fun w w' f g x e h k => ⟨RPair.mono w w' f g x e h k.1, k.2⟩
theorem RInt64.mono : Mono RInt64 := fun w w' f g x e h k => ⟨RInt.mono w w' f g x e h k.1, k.2⟩

theorem rd_one {cs : List Value} {f : Nat → Option Value} {v : Value} (_hl : cs.length = 1) (hf : ∀ j, j < 1 → f j = cs[j]?) (h : cs = [v]) : f 0 = some v := by
  rw [hf 0 (by omega), h]; rfl
theorem rd_int (f : Nat → Option Value) (cs : List Value) (hl : cs.length = 1) (hf : ∀ j, j < 1 → f j = cs[j]?) (h : Rd enc Try.prog w 3 cs) : ∃ x, RInt64 w f x := by
  obtain ⟨n, hcs, hw⟩ := h.int (k := .i64) (by kernel_rfl)
  exact ⟨n, rd_one hl hf hcs, i64_of hw⟩
theorem rd_ints {cs : List Value} (h : Rd enc Try.prog w 22 cs) : ∃ a l c xs, cs = [.slice a l c] ∧ Go.V.Rows 1 RInt64 w a l xs ∧ l ≤ maxLen :=
  h.slice (e := 3) (by kernel_rfl) (by kernel_rfl) (by omega) rd_int
theorem rd_pair (f : Nat → Option Value) (cs : List Value) (hl : cs.length = 2) (hf : ∀ j, j < 2 → f j = cs[j]?) (h : Rd enc Try.prog w 55 cs) : ∃ x, RPair64 w f x := by
  have hc : Try.prog.cellsOf 3 = 1 := by kernel_rfl
  obtain ⟨_, hx⟩ := h.array (n := 2) (e := 3) (by kernel_rfl)
  rw [hc] at hx
  match cs, hl with
  | [u, v], _ =>
    obtain ⟨n0, h0, w0⟩ := (hx 0 (by omega)).int (k := .i64) (by kernel_rfl)
    obtain ⟨n1, h1, w1⟩ := (hx 1 (by omega)).int (k := .i64) (by kernel_rfl)
    simp at h0 h1
    subst h0; subst h1
    exact ⟨(n0, n1), ⟨hf 0 (by omega), hf 1 (by omega)⟩, i64_of w0, i64_of w1⟩
theorem rd_dom {cs : List Value} (h : Rd enc Try.prog w 38 cs) : ∃ a l c xs, cs = [.slice a l c] ∧ Go.V.Rows 2 RPair64 w a l xs ∧ l ≤ maxLen :=
  h.slice (e := 55) (by kernel_rfl) (by kernel_rfl) (by omega) rd_pair
/-- a list of ranges in memory, of 64 bits -/
def RDom (w : World) (f : Cells) (d : Dm) : Prop := ∃ a l c, f 0 = some (.slice a l c) ∧ Go.V.Rows 2 RPair64 w a l d ∧ l ≤ maxLen
theorem rd_dom1 (f : Nat → Option Value) (cs : List Value) (hl : cs.length = 1) (hf : ∀ j, j < 1 → f j = cs[j]?) (h : Rd enc Try.prog w 38 cs) : ∃ x, RDom w f x := by
  obtain ⟨a, l, c, xs, hcs, hx, hm⟩ := rd_dom h
  exact ⟨xs, a, l, c, rd_one hl hf hcs, hx, hm⟩
theorem rd_doms {cs : List Value} (h : Rd enc Try.prog w 25 cs) : ∃ a l c xs, cs = [.slice a l c] ∧ Go.V.Rows 1 RDom w a l xs ∧ l ≤ maxLen :=
  h.slice (e := 38) (by kernel_rfl) (by kernel_rfl) (by omega) rd_dom1
/-- a propagator in memory, as it comes in -/
def RProp0 (w : World) (f : Cells) (p : PropS) : Prop :=
  ∃ a2 l2 c2 a3 l3 c3, f 0 = some (.string p.kind) ∧ f 1 = some (.slice a2 l2 c2) ∧ f 2 = some (.slice a3 l3 c3) ∧ f 3 = some (.int .i64 p.n) ∧ Go.V.Rows 1 RInt64 w a2 l2 p.vars ∧ Go.V.Rows 1 RInt64 w a3 l3 p.coefs ∧ I64 p.n
end
end Go.Proofs.Ytggfnakhmjkoeaa

namespace Go.Proofs.Ytggfnakhmjkoeaa
open Go Go.V Go.Proofs
open Go.RowKit (Below)
/-! manystrand/domain.Meet -/
def N23 (a1 : Option Addr) (l1 : Nat) (c1 : Nat) (a2 : Option Addr) (l2 : Nat) (c2 : Nat) (K : Option Addr → Nat → Nat → Int → World → Prop) (w : World) : Prop :=
  Calls Try.prog 60 #[(.slice a1 l1 c1), (.slice a2 l2 c2), (.func (.func 61) #[] #[])] w fun e6 w5 =>
  ∃ (a3 : Option Addr), ∃ (l3 : Nat), ∃ (c3 : Nat), ∃ (x4 : Int), e6 = .returned (.tuple #[(.slice a3 l3 c3), (.int .i64 x4)]) ∧
  (K a3 l3 c3 x4 w5)
def ann23 : Ann := (.two .nil (.two .nil .nil))
noncomputable def code23 : Code := match Try.f23.body with | some c => c | none => .skip
theorem wp23 (a1 : Option Addr) (l1 : Nat) (c1 : Nat) (a2 : Option Addr) (l2 : Nat) (c2 : Nat) (K : Option Addr → Nat → Nat → Int → World → Prop) (w : World) : WP Try.prog tab code23 ann23 (fnQ tab Try.f23.results.toList [(.one .slice), (.one (.int .i64))] K) (argE 0 [(.slice a1 l1 c1), (.slice a2 l2 c2)]) w = N23 a1 l1 c1 a2 l2 c2 K w := by kernel_rfl
theorem calls23 (a1 : Option Addr) (l1 : Nat) (c1 : Nat) (a2 : Option Addr) (l2 : Nat) (c2 : Nat) (K : Option Addr → Nat → Nat → Int → World → Prop) (w : World) (h : N23 a1 l1 c1 a2 l2 c2 K w) : Calls Try.prog 23 #[(.slice a1 l1 c1), (.slice a2 l2 c2)] w fun en w' => ∃ (a7 : Option Addr), ∃ (l7 : Nat), ∃ (c7 : Nat), ∃ (x8 : Int), en = .returned (.tuple #[(.slice a7 l7 c7), (.int .i64 x8)]) ∧ K a7 l7 c7 x8 w' :=
  have e : (fun en w' => ExShs [(.one .slice), (.one (.int .i64))] fun vs => en = .returned (tupled vs) ∧ ap [(.one .slice), (.one (.int .i64))] K vs fun p => p w') = (fun (en : Ending) (w' : World) => ∃ (a7 : Option Addr), ∃ (l7 : Nat), ∃ (c7 : Nat), ∃ (x8 : Int), en = .returned (.tuple #[(.slice a7 l7 c7), (.int .i64 x8)]) ∧ K a7 l7 c7 x8 w') := by kernel_rfl
  e ▸ fn_sound tabOk mixed Try.func23 (by kernel_rfl : Try.f23.body = some code23) ann23 [(.slice a1 l1 c1), (.slice a2 l2 c2)] [(.one .slice), (.one (.int .i64))] K w (by kernel_rfl) ((wp23 a1 l1 c1 a2 l2 c2 K w).symm ▸ h)
end Go.Proofs.Ytggfnakhmjkoeaa

namespace Go.Proofs.Ytggfnakhmjkoeaa
open Go Go.V Go.Proofs
open Go.RowKit (Below)
/-! manystrand/domain.Minus -/
def N24 (a1 : Option Addr) (l1 : Nat) (c1 : Nat) (a2 : Option Addr) (l2 : Nat) (c2 : Nat) (K : Option Addr → Nat → Nat → Int → World → Prop) (w : World) : Prop :=
  Calls Try.prog 60 #[(.slice a1 l1 c1), (.slice a2 l2 c2), (.func (.func 62) #[] #[])] w fun e6 w5 =>
  ∃ (a3 : Option Addr), ∃ (l3 : Nat), ∃ (c3 : Nat), ∃ (x4 : Int), e6 = .returned (.tuple #[(.slice a3 l3 c3), (.int .i64 x4)]) ∧
  (K a3 l3 c3 x4 w5)
def ann24 : Ann := (.two .nil (.two .nil .nil))
noncomputable def code24 : Code := match Try.f24.body with | some c => c | none => .skip
theorem wp24 (a1 : Option Addr) (l1 : Nat) (c1 : Nat) (a2 : Option Addr) (l2 : Nat) (c2 : Nat) (K : Option Addr → Nat → Nat → Int → World → Prop) (w : World) : WP Try.prog tab code24 ann24 (fnQ tab Try.f24.results.toList [(.one .slice), (.one (.int .i64))] K) (argE 0 [(.slice a1 l1 c1), (.slice a2 l2 c2)]) w = N24 a1 l1 c1 a2 l2 c2 K w := by kernel_rfl
theorem calls24 (a1 : Option Addr) (l1 : Nat) (c1 : Nat) (a2 : Option Addr) (l2 : Nat) (c2 : Nat) (K : Option Addr → Nat → Nat → Int → World → Prop) (w : World) (h : N24 a1 l1 c1 a2 l2 c2 K w) : Calls Try.prog 24 #[(.slice a1 l1 c1), (.slice a2 l2 c2)] w fun en w' => ∃ (a7 : Option Addr), ∃ (l7 : Nat), ∃ (c7 : Nat), ∃ (x8 : Int), en = .returned (.tuple #[(.slice a7 l7 c7), (.int .i64 x8)]) ∧ K a7 l7 c7 x8 w' :=
  have e : (fun en w' => ExShs [(.one .slice), (.one (.int .i64))] fun vs => en = .returned (tupled vs) ∧ ap [(.one .slice), (.one (.int .i64))] K vs fun p => p w') = (fun (en : Ending) (w' : World) => ∃ (a7 : Option Addr), ∃ (l7 : Nat), ∃ (c7 : Nat), ∃ (x8 : Int), en = .returned (.tuple #[(.slice a7 l7 c7), (.int .i64 x8)]) ∧ K a7 l7 c7 x8 w') := by kernel_rfl
  e ▸ fn_sound tabOk mixed Try.func24 (by kernel_rfl : Try.f24.body = some code24) ann24 [(.slice a1 l1 c1), (.slice a2 l2 c2)] [(.one .slice), (.one (.int .i64))] K w (by kernel_rfl) ((wp24 a1 l1 c1 a2 l2 c2 K w).symm ▸ h)
end Go.Proofs.Ytggfnakhmjkoeaa

namespace Go.Proofs.Ytggfnakhmjkoeaa
open Go Go.V Go.Proofs
open Go.RowKit (Below)
/-! manystrand/manystrandref06.Meet -/
def N25 (a1 : Option Addr) (l1 : Nat) (c1 : Nat) (a2 : Option Addr) (l2 : Nat) (c2 : Nat) (K : Option Addr → Nat → Nat → Int → World → Prop) (w : World) : Prop :=
  Calls Try.prog 63 #[(.slice a1 l1 c1), (.slice a2 l2 c2), (.bool true), (.bool false), (.bool false)] w fun e6 w5 =>
  ∃ (a3 : Option Addr), ∃ (l3 : Nat), ∃ (c3 : Nat), ∃ (x4 : Int), e6 = .returned (.tuple #[(.slice a3 l3 c3), (.int .i64 x4)]) ∧
  (K a3 l3 c3 x4 w5)
def ann25 : Ann := (.two .nil (.two .nil .nil))
noncomputable def code25 : Code := match Try.f25.body with | some c => c | none => .skip
theorem wp25 (a1 : Option Addr) (l1 : Nat) (c1 : Nat) (a2 : Option Addr) (l2 : Nat) (c2 : Nat) (K : Option Addr → Nat → Nat → Int → World → Prop) (w : World) : WP Try.prog tab code25 ann25 (fnQ tab Try.f25.results.toList [(.one .slice), (.one (.int .i64))] K) (argE 0 [(.slice a1 l1 c1), (.slice a2 l2 c2)]) w = N25 a1 l1 c1 a2 l2 c2 K w := by kernel_rfl
theorem calls25 (a1 : Option Addr) (l1 : Nat) (c1 : Nat) (a2 : Option Addr) (l2 : Nat) (c2 : Nat) (K : Option Addr → Nat → Nat → Int → World → Prop) (w : World) (h : N25 a1 l1 c1 a2 l2 c2 K w) : Calls Try.prog 25 #[(.slice a1 l1 c1), (.slice a2 l2 c2)] w fun en w' => ∃ (a7 : Option Addr), ∃ (l7 : Nat), ∃ (c7 : Nat), ∃ (x8 : Int), en = .returned (.tuple #[(.slice a7 l7 c7), (.int .i64 x8)]) ∧ K a7 l7 c7 x8 w' :=
  have e : (fun en w' => ExShs [(.one .slice), (.one (.int .i64))] fun vs => en = .returned (tupled vs) ∧ ap [(.one .slice), (.one (.int .i64))] K vs fun p => p w') = (fun (en : Ending) (w' : World) => ∃ (a7 : Option Addr), ∃ (l7 : Nat), ∃ (c7 : Nat), ∃ (x8 : Int), en = .returned (.tuple #[(.slice a7 l7 c7), (.int .i64 x8)]) ∧ K a7 l7 c7 x8 w') := by kernel_rfl
  e ▸ fn_sound tabOk mixed Try.func25 (by kernel_rfl : Try.f25.body = some code25) ann25 [(.slice a1 l1 c1), (.slice a2 l2 c2)] [(.one .slice), (.one (.int .i64))] K w (by kernel_rfl) ((wp25 a1 l1 c1 a2 l2 c2 K w).symm ▸ h)
end Go.Proofs.Ytggfnakhmjkoeaa

namespace Go.Proofs.Ytggfnakhmjkoeaa
open Go Go.V Go.Proofs
open Go.RowKit (Below)
/-! manystrand/domain.Join -/
def N27 (a1 : Option Addr) (l1 : Nat) (c1 : Nat) (a2 : Option Addr) (l2 : Nat) (c2 : Nat) (K : Option Addr → Nat → Nat → Int → World → Prop) (w : World) : Prop :=
  Calls Try.prog 60 #[(.slice a1 l1 c1), (.slice a2 l2 c2), (.func (.func 64) #[] #[])] w fun e6 w5 =>
  ∃ (a3 : Option Addr), ∃ (l3 : Nat), ∃ (c3 : Nat), ∃ (x4 : Int), e6 = .returned (.tuple #[(.slice a3 l3 c3), (.int .i64 x4)]) ∧
  (K a3 l3 c3 x4 w5)
def ann27 : Ann := (.two .nil (.two .nil .nil))
noncomputable def code27 : Code := match Try.f27.body with | some c => c | none => .skip
theorem wp27 (a1 : Option Addr) (l1 : Nat) (c1 : Nat) (a2 : Option Addr) (l2 : Nat) (c2 : Nat) (K : Option Addr → Nat → Nat → Int → World → Prop) (w : World) : WP Try.prog tab code27 ann27 (fnQ tab Try.f27.results.toList [(.one .slice), (.one (.int .i64))] K) (argE 0 [(.slice a1 l1 c1), (.slice a2 l2 c2)]) w = N27 a1 l1 c1 a2 l2 c2 K w := by kernel_rfl
theorem calls27 (a1 : Option Addr) (l1 : Nat) (c1 : Nat) (a2 : Option Addr) (l2 : Nat) (c2 : Nat) (K : Option Addr → Nat → Nat → Int → World → Prop) (w : World) (h : N27 a1 l1 c1 a2 l2 c2 K w) : Calls Try.prog 27 #[(.slice a1 l1 c1), (.slice a2 l2 c2)] w fun en w' => ∃ (a7 : Option Addr), ∃ (l7 : Nat), ∃ (c7 : Nat), ∃ (x8 : Int), en = .returned (.tuple #[(.slice a7 l7 c7), (.int .i64 x8)]) ∧ K a7 l7 c7 x8 w' :=
  have e : (fun en w' => ExShs [(.one .slice), (.one (.int .i64))] fun vs => en = .returned (tupled vs) ∧ ap [(.one .slice), (.one (.int .i64))] K vs fun p => p w') = (fun (en : Ending) (w' : World) => ∃ (a7 : Option Addr), ∃ (l7 : Nat), ∃ (c7 : Nat), ∃ (x8 : Int), en = .returned (.tuple #[(.slice a7 l7 c7), (.int .i64 x8)]) ∧ K a7 l7 c7 x8 w') := by kernel_rfl
  e ▸ fn_sound tabOk mixed Try.func27 (by kernel_rfl : Try.f27.body = some code27) ann27 [(.slice a1 l1 c1), (.slice a2 l2 c2)] [(.one .slice), (.one (.int .i64))] K w (by kernel_rfl) ((wp27 a1 l1 c1 a2 l2 c2 K w).symm ▸ h)
end Go.Proofs.Ytggfnakhmjkoeaa

namespace Go.Proofs.Ytggfnakhmjkoeaa
open Go Go.V Go.Proofs
open Go.RowKit (Below)
/-! manystrand/manystrandref06.Join -/
def N28 (a1 : Option Addr) (l1 : Nat) (c1 : Nat) (a2 : Option Addr) (l2 : Nat) (c2 : Nat) (K : Option Addr → Nat → Nat → Int → World → Prop) (w : World) : Prop :=
  Calls Try.prog 63 #[(.slice a1 l1 c1), (.slice a2 l2 c2), (.bool true), (.bool true), (.bool true)] w fun e6 w5 =>
  ∃ (a3 : Option Addr), ∃ (l3 : Nat), ∃ (c3 : Nat), ∃ (x4 : Int), e6 = .returned (.tuple #[(.slice a3 l3 c3), (.int .i64 x4)]) ∧
  (K a3 l3 c3 x4 w5)
def ann28 : Ann := (.two .nil (.two .nil .nil))
noncomputable def code28 : Code := match Try.f28.body with | some c => c | none => .skip
theorem wp28 (a1 : Option Addr) (l1 : Nat) (c1 : Nat) (a2 : Option Addr) (l2 : Nat) (c2 : Nat) (K : Option Addr → Nat → Nat → Int → World → Prop) (w : World) : WP Try.prog tab code28 ann28 (fnQ tab Try.f28.results.toList [(.one .slice), (.one (.int .i64))] K) (argE 0 [(.slice a1 l1 c1), (.slice a2 l2 c2)]) w = N28 a1 l1 c1 a2 l2 c2 K w := by kernel_rfl
theorem calls28 (a1 : Option Addr) (l1 : Nat) (c1 : Nat) (a2 : Option Addr) (l2 : Nat) (c2 : Nat) (K : Option Addr → Nat → Nat → Int → World → Prop) (w : World) (h : N28 a1 l1 c1 a2 l2 c2 K w) : Calls Try.prog 28 #[(.slice a1 l1 c1), (.slice a2 l2 c2)] w fun en w' => ∃ (a7 : Option Addr), ∃ (l7 : Nat), ∃ (c7 : Nat), ∃ (x8 : Int), en = .returned (.tuple #[(.slice a7 l7 c7), (.int .i64 x8)]) ∧ K a7 l7 c7 x8 w' :=
  have e : (fun en w' => ExShs [(.one .slice), (.one (.int .i64))] fun vs => en = .returned (tupled vs) ∧ ap [(.one .slice), (.one (.int .i64))] K vs fun p => p w') = (fun (en : Ending) (w' : World) => ∃ (a7 : Option Addr), ∃ (l7 : Nat), ∃ (c7 : Nat), ∃ (x8 : Int), en = .returned (.tuple #[(.slice a7 l7 c7), (.int .i64 x8)]) ∧ K a7 l7 c7 x8 w') := by kernel_rfl
  e ▸ fn_sound tabOk mixed Try.func28 (by kernel_rfl : Try.f28.body = some code28) ann28 [(.slice a1 l1 c1), (.slice a2 l2 c2)] [(.one .slice), (.one (.int .i64))] K w (by kernel_rfl) ((wp28 a1 l1 c1 a2 l2 c2 K w).symm ▸ h)
end Go.Proofs.Ytggfnakhmjkoeaa

namespace Go.Proofs.Ytggfnakhmjkoeaa
open Go Go.V Go.Proofs
open Go.RowKit (Below)
/-! manystrand/manystrandref06.Minus -/
def N29 (a1 : Option Addr) (l1 : Nat) (c1 : Nat) (a2 : Option Addr) (l2 : Nat) (c2 : Nat) (K : Option Addr → Nat → Nat → Int → World → Prop) (w : World) : Prop :=
  Calls Try.prog 63 #[(.slice a1 l1 c1), (.slice a2 l2 c2), (.bool false), (.bool true), (.bool false)] w fun e6 w5 =>
  ∃ (a3 : Option Addr), ∃ (l3 : Nat), ∃ (c3 : Nat), ∃ (x4 : Int), e6 = .returned (.tuple #[(.slice a3 l3 c3), (.int .i64 x4)]) ∧
  (K a3 l3 c3 x4 w5)
def ann29 : Ann := (.two .nil (.two .nil .nil))
noncomputable def code29 : Code := match Try.f29.body with | some c => c | none => .skip
theorem wp29 (a1 : Option Addr) (l1 : Nat) (c1 : Nat) (a2 : Option Addr) (l2 : Nat) (c2 : Nat) (K : Option Addr → Nat → Nat → Int → World → Prop) (w : World) : WP Try.prog tab code29 ann29 (fnQ tab Try.f29.results.toList [(.one .slice), (.one (.int .i64))] K) (argE 0 [(.slice a1 l1 c1), (.slice a2 l2 c2)]) w = N29 a1 l1 c1 a2 l2 c2 K w := by kernel_rfl
theorem calls29 (a1 : Option Addr) (l1 : Nat) (c1 : Nat) (a2 : Option Addr) (l2 : Nat) (c2 : Nat) (K : Option Addr → Nat → Nat → Int → World → Prop) (w : World) (h : N29 a1 l1 c1 a2 l2 c2 K w) : Calls Try.prog 29 #[(.slice a1 l1 c1), (.slice a2 l2 c2)] w fun en w' => ∃ (a7 : Option Addr), ∃ (l7 : Nat), ∃ (c7 : Nat), ∃ (x8 : Int), en = .returned (.tuple #[(.slice a7 l7 c7), (.int .i64 x8)]) ∧ K a7 l7 c7 x8 w' :=
  have e : (fun en w' => ExShs [(.one .slice), (.one (.int .i64))] fun vs => en = .returned (tupled vs) ∧ ap [(.one .slice), (.one (.int .i64))] K vs fun p => p w') = (fun (en : Ending) (w' : World) => ∃ (a7 : Option Addr), ∃ (l7 : Nat), ∃ (c7 : Nat), ∃ (x8 : Int), en = .returned (.tuple #[(.slice a7 l7 c7), (.int .i64 x8)]) ∧ K a7 l7 c7 x8 w') := by kernel_rfl
  e ▸ fn_sound tabOk mixed Try.func29 (by kernel_rfl : Try.f29.body = some code29) ann29 [(.slice a1 l1 c1), (.slice a2 l2 c2)] [(.one .slice), (.one (.int .i64))] K w (by kernel_rfl) ((wp29 a1 l1 c1 a2 l2 c2 K w).symm ▸ h)
end Go.Proofs.Ytggfnakhmjkoeaa

namespace Go.Proofs.Ytggfnakhmjkoeaa
open Go Go.V Go.Proofs
open Go.RowKit (Below)
/-! manystrand/domain.Of -/
def N30 (a1 : Option Addr) (l1 : Nat) (_c1 : Nat) (K : Option Addr → Nat → Nat → Int → World → Prop) (w : World) : Prop :=
  AllocK w (zeroOf Try.prog 72) 72 fun b2 w3 =>
  ∃ (I4 : Int → World → Prop) (μ5 : Int → World → Nat),
  (I4 0 w3 ∧ True) ∧
  ∀ (w6 : World) (x7 : Int), I4 x7 w6 →
  BoolK (decide ((x7 : Int) < (l1 : Nat)))
  ((0 ≤ (x7 : Int) ∧ (x7 : Int) < (l1 : Nat)) ∧
    AddrK a1 fun b8 =>
    ∃ (x9 : Int), w6.cell? (b8.add ((x7 : Int).toNat * 1)) = some (.int .i64 x9) ∧
    (BoolK (decide ((x9 : Int) < 0))
      (K none 0 0 2 w6)
      (BoolK (decide ((x9 : Int) > 1000))
        (K none 0 0 2 w6)
        ((0 ≤ (x9 : Int) ∧ (x9 : Int) < (1001 : Nat)) ∧
          SetK w6 (b2.add ((x9 : Int).toNat * 1)) (.bool true) fun w10 =>
          I4 (IntKind.wrap .i64 (x7 + 1)) w10 ∧ μ5 (IntKind.wrap .i64 (x7 + 1)) w10 < μ5 x7 w6))))
  (Calls Try.prog 65 #[(.pointer (some b2))] w6 fun e13 w12 =>
    ∃ (a11 : Option Addr), ∃ (l11 : Nat), ∃ (c11 : Nat), e13 = .returned (.slice a11 l11 c11) ∧
    (K a11 l11 c11 0 w12))
def ann30 : Ann := (.two .nil (.two .nil (.two (.two .nil (.one (.loop [(10, (.one (.int .i64)))] [4, 8, 9] (.two .nil (.two (.two .nil .nil) (.two (.one (.two .nil (.two (.two .nil (.two (.two .nil .nil) .nil)) .nil))) .nil)))))) (.two .nil .nil))))
noncomputable def code30 : Code := match Try.f30.body with | some c => c | none => .skip
theorem wp30 (a1 : Option Addr) (l1 : Nat) (c1 : Nat) (K : Option Addr → Nat → Nat → Int → World → Prop) (w : World) : WP Try.prog tab code30 ann30 (fnQ tab Try.f30.results.toList [(.one .slice), (.one (.int .i64))] K) (argE 0 [(.slice a1 l1 c1)]) w = N30 a1 l1 c1 K w := by kernel_rfl
theorem calls30 (a1 : Option Addr) (l1 : Nat) (c1 : Nat) (K : Option Addr → Nat → Nat → Int → World → Prop) (w : World) (h : N30 a1 l1 c1 K w) : Calls Try.prog 30 #[(.slice a1 l1 c1)] w fun en w' => ∃ (a14 : Option Addr), ∃ (l14 : Nat), ∃ (c14 : Nat), ∃ (x15 : Int), en = .returned (.tuple #[(.slice a14 l14 c14), (.int .i64 x15)]) ∧ K a14 l14 c14 x15 w' :=
  have e : (fun en w' => ExShs [(.one .slice), (.one (.int .i64))] fun vs => en = .returned (tupled vs) ∧ ap [(.one .slice), (.one (.int .i64))] K vs fun p => p w') = (fun (en : Ending) (w' : World) => ∃ (a14 : Option Addr), ∃ (l14 : Nat), ∃ (c14 : Nat), ∃ (x15 : Int), en = .returned (.tuple #[(.slice a14 l14 c14), (.int .i64 x15)]) ∧ K a14 l14 c14 x15 w') := by kernel_rfl
  e ▸ fn_sound tabOk mixed Try.func30 (by kernel_rfl : Try.f30.body = some code30) ann30 [(.slice a1 l1 c1)] [(.one .slice), (.one (.int .i64))] K w (by kernel_rfl) ((wp30 a1 l1 c1 K w).symm ▸ h)
end Go.Proofs.Ytggfnakhmjkoeaa

namespace Go.Proofs.Ytggfnakhmjkoeaa
open Go Go.V Go.Proofs
open Go.RowKit (Below)
/-! manystrand/manystrandref06.Of -/
def N31 (a1 : Option Addr) (l1 : Nat) (_c1 : Nat) (K : Option Addr → Nat → Nat → Int → World → Prop) (w : World) : Prop :=
  AllocK w (zeroOf Try.prog 71) 71 fun b2 w3 =>
  ∃ (I4 : Int → World → Prop) (μ5 : Int → World → Nat),
  (I4 0 w3 ∧ True) ∧
  ∀ (w6 : World) (x7 : Int), I4 x7 w6 →
  BoolK (decide ((x7 : Int) < (l1 : Nat)))
  ((0 ≤ (x7 : Int) ∧ (x7 : Int) < (l1 : Nat)) ∧
    AddrK a1 fun b8 =>
    ∃ (x9 : Int), w6.cell? (b8.add ((x7 : Int).toNat * 1)) = some (.int .i64 x9) ∧
    (BoolK (decide ((x9 : Int) < 0))
      (K none 0 0 2 w6)
      ((0 ≤ (x7 : Int) ∧ (x7 : Int) < (l1 : Nat)) ∧
        AddrK a1 fun b10 =>
        ∃ (x11 : Int), w6.cell? (b10.add ((x7 : Int).toNat * 1)) = some (.int .i64 x11) ∧
        (BoolK (decide ((x11 : Int) > 1000))
          (K none 0 0 2 w6)
          ((0 ≤ (x7 : Int) ∧ (x7 : Int) < (l1 : Nat)) ∧
            AddrK a1 fun b12 =>
            ∃ (x13 : Int), w6.cell? (b12.add ((x7 : Int).toNat * 1)) = some (.int .i64 x13) ∧
            ((0 ≤ (x13 : Int) ∧ (x13 : Int) < (1001 : Nat)) ∧
              SetK w6 (b2.add ((x13 : Int).toNat * 1)) (.bool true) fun w14 =>
              I4 (IntKind.wrap .i64 (x7 + 1)) w14 ∧ μ5 (IntKind.wrap .i64 (x7 + 1)) w14 < μ5 x7 w6))))))
  (∃ (r15 : Array Value), RowAt w6 b2 r15 1001 ∧
    (Calls Try.prog 66 #[(.agg r15)] w6 fun e18 w17 =>
      ∃ (a16 : Option Addr), ∃ (l16 : Nat), ∃ (c16 : Nat), e18 = .returned (.slice a16 l16 c16) ∧
      (K a16 l16 c16 0 w17)))
def ann31 : Ann := (.two .nil (.two .nil (.two (.two .nil (.one (.loop [(5, (.one (.int .i64)))] [0, 4] (.two (.two .nil (.two .nil .nil)) (.two (.one (.two (.two .nil (.two (.two .nil .nil) .nil)) .nil)) .nil))))) (.two .nil .nil))))
noncomputable def code31 : Code := match Try.f31.body with | some c => c | none => .skip
theorem wp31 (a1 : Option Addr) (l1 : Nat) (c1 : Nat) (K : Option Addr → Nat → Nat → Int → World → Prop) (w : World) : WP Try.prog tab code31 ann31 (fnQ tab Try.f31.results.toList [(.one .slice), (.one (.int .i64))] K) (argE 0 [(.slice a1 l1 c1)]) w = N31 a1 l1 c1 K w := by kernel_rfl
theorem calls31 (a1 : Option Addr) (l1 : Nat) (c1 : Nat) (K : Option Addr → Nat → Nat → Int → World → Prop) (w : World) (h : N31 a1 l1 c1 K w) : Calls Try.prog 31 #[(.slice a1 l1 c1)] w fun en w' => ∃ (a19 : Option Addr), ∃ (l19 : Nat), ∃ (c19 : Nat), ∃ (x20 : Int), en = .returned (.tuple #[(.slice a19 l19 c19), (.int .i64 x20)]) ∧ K a19 l19 c19 x20 w' :=
  have e : (fun en w' => ExShs [(.one .slice), (.one (.int .i64))] fun vs => en = .returned (tupled vs) ∧ ap [(.one .slice), (.one (.int .i64))] K vs fun p => p w') = (fun (en : Ending) (w' : World) => ∃ (a19 : Option Addr), ∃ (l19 : Nat), ∃ (c19 : Nat), ∃ (x20 : Int), en = .returned (.tuple #[(.slice a19 l19 c19), (.int .i64 x20)]) ∧ K a19 l19 c19 x20 w') := by kernel_rfl
  e ▸ fn_sound tabOk mixed Try.func31 (by kernel_rfl : Try.f31.body = some code31) ann31 [(.slice a1 l1 c1)] [(.one .slice), (.one (.int .i64))] K w (by kernel_rfl) ((wp31 a1 l1 c1 K w).symm ▸ h)
end Go.Proofs.Ytggfnakhmjkoeaa

namespace Go.Proofs.Ytggfnakhmjkoeaa
open Go Go.V Go.Proofs
open Go.RowKit (Below)
/-! manystrand/manystrandlaw06.ints -/
def N34 (a1 : Option Addr) (l1 : Nat) (_c1 : Nat) (a2 : Option Addr) (l2 : Nat) (_c2 : Nat) (K : Bool → World → Prop) (w : World) : Prop :=
  BoolK (((l1 : Nat) : Int) != (l2 : Nat))
  (K false w)
  (∃ (I3 : Int → World → Prop) (μ4 : Int → World → Nat),
    (I3 0 w ∧ True) ∧
    ∀ (w5 : World) (x6 : Int), I3 x6 w5 →
    BoolK (decide ((x6 : Int) < (l1 : Nat)))
    (DrewK w5 fun w7 =>
      (0 ≤ (x6 : Int) ∧ (x6 : Int) < (l1 : Nat)) ∧
      AddrK a1 fun b8 =>
      ∃ (x9 : Int), w7.cell? (b8.add ((x6 : Int).toNat * 1)) = some (.int .i64 x9) ∧
      ((0 ≤ (x6 : Int) ∧ (x6 : Int) < (l2 : Nat)) ∧
        AddrK a2 fun b10 =>
        ∃ (x11 : Int), w7.cell? (b10.add ((x6 : Int).toNat * 1)) = some (.int .i64 x11) ∧
        (BoolK ((x9 : Int) != x11)
          (K false w7)
          (I3 (IntKind.wrap .i64 (x6 + 1)) w7 ∧ μ4 (IntKind.wrap .i64 (x6 + 1)) w7 < μ4 x6 w5))))
    (K true w5))
def ann34 : Ann := (.two .nil (.two (.two .nil (.two (.two .nil .nil) .nil)) (.two (.two .nil (.one (.loop [(13, (.one (.int .i64)))] [0, 1, 12] (.two .nil (.two (.two .nil .nil) (.two (.one (.two .nil (.two (.any 9 (.take 0 (.take 1 (.take 2 (.take 3 (.take 4 (.take 5 (.take 6 (.take 7 (.take 8 .done)))))))))) (.two (.two .nil .nil) .nil)))) .nil)))))) (.two .nil .nil))))
noncomputable def code34 : Code := match Try.f34.body with | some c => c | none => .skip
theorem wp34 (a1 : Option Addr) (l1 : Nat) (c1 : Nat) (a2 : Option Addr) (l2 : Nat) (c2 : Nat) (K : Bool → World → Prop) (w : World) : WP Try.prog tab code34 ann34 (fnQ tab Try.f34.results.toList [(.one .bool)] K) (argE 0 [(.slice a1 l1 c1), (.slice a2 l2 c2)]) w = N34 a1 l1 c1 a2 l2 c2 K w := by kernel_rfl
theorem calls34 (a1 : Option Addr) (l1 : Nat) (c1 : Nat) (a2 : Option Addr) (l2 : Nat) (c2 : Nat) (K : Bool → World → Prop) (w : World) (h : N34 a1 l1 c1 a2 l2 c2 K w) : Calls Try.prog 34 #[(.slice a1 l1 c1), (.slice a2 l2 c2)] w fun en w' => ∃ (p12 : Bool), en = .returned (.bool p12) ∧ K p12 w' :=
  have e : (fun en w' => ExShs [(.one .bool)] fun vs => en = .returned (tupled vs) ∧ ap [(.one .bool)] K vs fun p => p w') = (fun (en : Ending) (w' : World) => ∃ (p12 : Bool), en = .returned (.bool p12) ∧ K p12 w') := by kernel_rfl
  e ▸ fn_sound tabOk mixed Try.func34 (by kernel_rfl : Try.f34.body = some code34) ann34 [(.slice a1 l1 c1), (.slice a2 l2 c2)] [(.one .bool)] K w (by kernel_rfl) ((wp34 a1 l1 c1 a2 l2 c2 K w).symm ▸ h)
end Go.Proofs.Ytggfnakhmjkoeaa

namespace Go.Proofs.Ytggfnakhmjkoeaa
open Go Go.V Go.Proofs
open Go.RowKit (Below)
/-! manystrand/domain.Values -/
def N35 (a1 : Option Addr) (l1 : Nat) (c1 : Nat) (K : Option Addr → Nat → Nat → World → Prop) (w : World) : Prop :=
  Calls Try.prog 32 #[(.slice a1 l1 c1)] w fun e4 w3 =>
  ∃ (p2 : Bool), e4 = .returned (.bool p2) ∧
  (BoolK (!p2)
    (K none 0 0 w3)
    (∃ (I5 : Option Addr → Nat → Nat → Int → World → Prop) (μ6 : Option Addr → Nat → Nat → Int → World → Nat),
      (I5 none 0 0 0 w3 ∧ True) ∧
      ∀ (w7 : World) (a8 : Option Addr) (l8 : Nat) (c8 : Nat) (x9 : Int), I5 a8 l8 c8 x9 w7 →
      BoolK (decide ((x9 : Int) < (l1 : Nat)))
      ((0 ≤ (x9 : Int) ∧ (x9 : Int) < (l1 : Nat)) ∧
        AddrK a1 fun b10 =>
        ∃ (x11 : Int), w7.cell? ((b10.add ((x9 : Int).toNat * 2)).add 0) = some (.int .i64 x11) ∧
        (∃ (x12 : Int), w7.cell? ((b10.add ((x9 : Int).toNat * 2)).add 1) = some (.int .i64 x12) ∧
          (AllocK w7 (#[.int .i64 0, .int .i64 0]) 55 fun b13 w14 =>
            SetK w14 (b13.add 0) (.int .i64 x11) fun w15 =>
            SetK w15 (b13.add 1) (.int .i64 x12) fun w16 =>
            (0 ≤ (0 : Int) ∧ (0 : Int) < (2 : Nat)) ∧
            ∃ (x17 : Int), w16.cell? (b13.add ((0 : Int).toNat * 1)) = some (.int .i64 x17) ∧
            (∃ (I18 : Option Addr → Nat → Nat → Int → World → Prop) (μ19 : Option Addr → Nat → Nat → Int → World → Nat),
              (I18 a8 l8 c8 x17 w16 ∧ True) ∧
              ∀ (w20 : World) (a21 : Option Addr) (l21 : Nat) (c21 : Nat) (x22 : Int), I18 a21 l21 c21 x22 w20 →
              (0 ≤ (1 : Int) ∧ (1 : Int) < (2 : Nat)) ∧
              ∃ (x23 : Int), w20.cell? (b13.add ((1 : Int).toNat * 1)) = some (.int .i64 x23) ∧
              (BoolK (decide ((x22 : Int) ≤ x23))
                (AllocK w20 (#[(.int .i64 x22)]) 3 fun b24 w25 =>
                  ∃ (a26 : Option Addr), ∃ (l26 : Nat), ∃ (c26 : Nat), ∃ (w27 : World), Sem.run Try.prog (Builtin.append_ #[22, 22] 22 #[(.slice a21 l21 c21), (.slice (some b24) 1 1)]) w25 = .ok (.slice a26 l26 c26) w27 ∧
                  (I18 a26 l26 c26 (IntKind.wrap .i64 (x22 + 1)) w27 ∧ μ19 a26 l26 c26 (IntKind.wrap .i64 (x22 + 1)) w27 < μ19 a21 l21 c21 x22 w20))
                (I5 a21 l21 c21 (IntKind.wrap .i64 (x9 + 1)) w20 ∧ μ6 a21 l21 c21 (IntKind.wrap .i64 (x9 + 1)) w20 < μ6 a8 l8 c8 x9 w7))))))
      (K a8 l8 c8 w7)))
def ann35 : Ann := (.two .nil (.two (.two .nil (.two (.two .nil .nil) .nil)) (.two .nil (.two (.two .nil (.one (.loop [(3, (.one .slice)), (12, (.one (.int .i64)))] [10, 11] (.two .nil (.two (.two .nil .nil) (.two (.one (.two .nil (.two .nil (.one (.loop [(3, (.one .slice)), (6, (.one (.int .i64)))] [5, 10, 11, 12] (.two (.two .nil (.two .nil .nil)) (.two (.one .nil) .nil))))))) .nil)))))) (.two .nil .nil)))))
noncomputable def code35 : Code := match Try.f35.body with | some c => c | none => .skip
theorem wp35 (a1 : Option Addr) (l1 : Nat) (c1 : Nat) (K : Option Addr → Nat → Nat → World → Prop) (w : World) : WP Try.prog tab code35 ann35 (fnQ tab Try.f35.results.toList [(.one .slice)] K) (argE 0 [(.slice a1 l1 c1)]) w = N35 a1 l1 c1 K w := by kernel_rfl
theorem calls35 (a1 : Option Addr) (l1 : Nat) (c1 : Nat) (K : Option Addr → Nat → Nat → World → Prop) (w : World) (h : N35 a1 l1 c1 K w) : Calls Try.prog 35 #[(.slice a1 l1 c1)] w fun en w' => ∃ (a28 : Option Addr), ∃ (l28 : Nat), ∃ (c28 : Nat), en = .returned (.slice a28 l28 c28) ∧ K a28 l28 c28 w' :=
  have e : (fun en w' => ExShs [(.one .slice)] fun vs => en = .returned (tupled vs) ∧ ap [(.one .slice)] K vs fun p => p w') = (fun (en : Ending) (w' : World) => ∃ (a28 : Option Addr), ∃ (l28 : Nat), ∃ (c28 : Nat), en = .returned (.slice a28 l28 c28) ∧ K a28 l28 c28 w') := by kernel_rfl
  e ▸ fn_sound tabOk mixed Try.func35 (by kernel_rfl : Try.f35.body = some code35) ann35 [(.slice a1 l1 c1)] [(.one .slice)] K w (by kernel_rfl) ((wp35 a1 l1 c1 K w).symm ▸ h)
end Go.Proofs.Ytggfnakhmjkoeaa

namespace Go.Proofs.Ytggfnakhmjkoeaa
open Go Go.V Go.Proofs
open Go.RowKit (Below)
/-! manystrand/domain.Has -/
def N37 (a1 : Option Addr) (l1 : Nat) (c1 : Nat) (x2 : Int) (K : Bool → World → Prop) (w : World) : Prop :=
  Calls Try.prog 32 #[(.slice a1 l1 c1)] w fun e5 w4 =>
  ∃ (p3 : Bool), e5 = .returned (.bool p3) ∧
  (BoolK (!p3)
    (K false w4)
    (∃ (I6 : Int → World → Prop) (μ7 : Int → World → Nat),
      (I6 0 w4 ∧ True) ∧
      ∀ (w8 : World) (x9 : Int), I6 x9 w8 →
      BoolK (decide ((x9 : Int) < (l1 : Nat)))
      ((0 ≤ (x9 : Int) ∧ (x9 : Int) < (l1 : Nat)) ∧
        AddrK a1 fun b10 =>
        ∃ (x11 : Int), w8.cell? ((b10.add ((x9 : Int).toNat * 2)).add 0) = some (.int .i64 x11) ∧
        (∃ (x12 : Int), w8.cell? ((b10.add ((x9 : Int).toNat * 2)).add 1) = some (.int .i64 x12) ∧
          (AllocK w8 (#[.int .i64 0, .int .i64 0]) 55 fun b13 w14 =>
            SetK w14 (b13.add 0) (.int .i64 x11) fun w15 =>
            SetK w15 (b13.add 1) (.int .i64 x12) fun w16 =>
            (0 ≤ (0 : Int) ∧ (0 : Int) < (2 : Nat)) ∧
            ∃ (x17 : Int), w16.cell? (b13.add ((0 : Int).toNat * 1)) = some (.int .i64 x17) ∧
            (BoolK (decide ((x17 : Int) ≤ x2))
              ((0 ≤ (1 : Int) ∧ (1 : Int) < (2 : Nat)) ∧
                ∃ (x18 : Int), w16.cell? (b13.add ((1 : Int).toNat * 1)) = some (.int .i64 x18) ∧
                (BoolK (decide ((x2 : Int) ≤ x18))
                  (K true w16)
                  (I6 (IntKind.wrap .i64 (x9 + 1)) w16 ∧ μ7 (IntKind.wrap .i64 (x9 + 1)) w16 < μ7 x9 w8)))
              (I6 (IntKind.wrap .i64 (x9 + 1)) w16 ∧ μ7 (IntKind.wrap .i64 (x9 + 1)) w16 < μ7 x9 w8)))))
      (K false w8)))
def ann37 : Ann := (.two .nil (.two (.two .nil (.two (.two .nil .nil) .nil)) (.two (.two .nil (.one (.loop [(12, (.one (.int .i64)))] [1, 10, 11] (.two .nil (.two (.two .nil .nil) (.two (.one (.two .nil (.two .nil (.two (.two .nil .nil) .nil)))) .nil)))))) (.two .nil .nil))))
noncomputable def code37 : Code := match Try.f37.body with | some c => c | none => .skip
theorem wp37 (a1 : Option Addr) (l1 : Nat) (c1 : Nat) (x2 : Int) (K : Bool → World → Prop) (w : World) : WP Try.prog tab code37 ann37 (fnQ tab Try.f37.results.toList [(.one .bool)] K) (argE 0 [(.slice a1 l1 c1), (.int .i64 x2)]) w = N37 a1 l1 c1 x2 K w := by kernel_rfl
theorem calls37 (a1 : Option Addr) (l1 : Nat) (c1 : Nat) (x2 : Int) (K : Bool → World → Prop) (w : World) (h : N37 a1 l1 c1 x2 K w) : Calls Try.prog 37 #[(.slice a1 l1 c1), (.int .i64 x2)] w fun en w' => ∃ (p19 : Bool), en = .returned (.bool p19) ∧ K p19 w' :=
  have e : (fun en w' => ExShs [(.one .bool)] fun vs => en = .returned (tupled vs) ∧ ap [(.one .bool)] K vs fun p => p w') = (fun (en : Ending) (w' : World) => ∃ (p19 : Bool), en = .returned (.bool p19) ∧ K p19 w') := by kernel_rfl
  e ▸ fn_sound tabOk mixed Try.func37 (by kernel_rfl : Try.f37.body = some code37) ann37 [(.slice a1 l1 c1), (.int .i64 x2)] [(.one .bool)] K w (by kernel_rfl) ((wp37 a1 l1 c1 x2 K w).symm ▸ h)
end Go.Proofs.Ytggfnakhmjkoeaa

namespace Go.Proofs.Ytggfnakhmjkoeaa
open Go Go.V Go.Proofs
open Go.RowKit (Below)
/-! manystrand/manystrandref06.Has -/
def N38 (a1 : Option Addr) (l1 : Nat) (c1 : Nat) (x2 : Int) (K : Bool → World → Prop) (w : World) : Prop :=
  ∃ (I3 : Int → World → Prop) (μ4 : Int → World → Nat),
  (I3 0 w ∧ True) ∧
  ∀ (w5 : World) (x6 : Int), I3 x6 w5 →
  BoolK (decide ((x6 : Int) < (l1 : Nat)))
  (Calls Try.prog 33 #[(.slice a1 l1 c1)] w5 fun e9 w8 =>
    ∃ (p7 : Bool), e9 = .returned (.bool p7) ∧
    (BoolK p7
      ((0 ≤ (x6 : Int) ∧ (x6 : Int) < (l1 : Nat)) ∧
        AddrK a1 fun b10 =>
        (0 ≤ (0 : Int) ∧ (0 : Int) < (2 : Nat)) ∧
        ∃ (x11 : Int), w8.cell? ((b10.add ((x6 : Int).toNat * 2)).add ((0 : Int).toNat * 1)) = some (.int .i64 x11) ∧
        (BoolK (decide ((x2 : Int) ≥ x11))
          ((0 ≤ (x6 : Int) ∧ (x6 : Int) < (l1 : Nat)) ∧
            AddrK a1 fun b12 =>
            (0 ≤ (1 : Int) ∧ (1 : Int) < (2 : Nat)) ∧
            ∃ (x13 : Int), w8.cell? ((b12.add ((x6 : Int).toNat * 2)).add ((1 : Int).toNat * 1)) = some (.int .i64 x13) ∧
            (BoolK (decide ((x2 : Int) ≤ x13))
              (K true w8)
              (I3 (IntKind.wrap .i64 (x6 + 1)) w8 ∧ μ4 (IntKind.wrap .i64 (x6 + 1)) w8 < μ4 x6 w5)))
          (I3 (IntKind.wrap .i64 (x6 + 1)) w8 ∧ μ4 (IntKind.wrap .i64 (x6 + 1)) w8 < μ4 x6 w5)))
      (K false w8)))
  (K false w5)
def ann38 : Ann := (.two .nil (.two (.two .nil (.one (.loop [(5, (.one (.int .i64)))] [0, 1] (.two (.two .nil (.two .nil .nil)) (.two (.one (.two .nil (.two (.two .nil .nil) .nil))) .nil))))) (.two .nil .nil)))
noncomputable def code38 : Code := match Try.f38.body with | some c => c | none => .skip
theorem wp38 (a1 : Option Addr) (l1 : Nat) (c1 : Nat) (x2 : Int) (K : Bool → World → Prop) (w : World) : WP Try.prog tab code38 ann38 (fnQ tab Try.f38.results.toList [(.one .bool)] K) (argE 0 [(.slice a1 l1 c1), (.int .i64 x2)]) w = N38 a1 l1 c1 x2 K w := by kernel_rfl
theorem calls38 (a1 : Option Addr) (l1 : Nat) (c1 : Nat) (x2 : Int) (K : Bool → World → Prop) (w : World) (h : N38 a1 l1 c1 x2 K w) : Calls Try.prog 38 #[(.slice a1 l1 c1), (.int .i64 x2)] w fun en w' => ∃ (p14 : Bool), en = .returned (.bool p14) ∧ K p14 w' :=
  have e : (fun en w' => ExShs [(.one .bool)] fun vs => en = .returned (tupled vs) ∧ ap [(.one .bool)] K vs fun p => p w') = (fun (en : Ending) (w' : World) => ∃ (p14 : Bool), en = .returned (.bool p14) ∧ K p14 w') := by kernel_rfl
  e ▸ fn_sound tabOk mixed Try.func38 (by kernel_rfl : Try.f38.body = some code38) ann38 [(.slice a1 l1 c1), (.int .i64 x2)] [(.one .bool)] K w (by kernel_rfl) ((wp38 a1 l1 c1 x2 K w).symm ▸ h)
end Go.Proofs.Ytggfnakhmjkoeaa

namespace Go.Proofs.Ytggfnakhmjkoeaa
open Go Go.V Go.Proofs
open Go.RowKit (Below)
/-! manystrand/domain.Size -/
def N39 (a1 : Option Addr) (l1 : Nat) (c1 : Nat) (K : Int → World → Prop) (w : World) : Prop :=
  Calls Try.prog 32 #[(.slice a1 l1 c1)] w fun e4 w3 =>
  ∃ (p2 : Bool), e4 = .returned (.bool p2) ∧
  (BoolK (!p2)
    (K 0 w3)
    (∃ (I5 : Int → Int → World → Prop) (μ6 : Int → Int → World → Nat),
      (I5 0 0 w3 ∧ True) ∧
      ∀ (w7 : World) (x8 : Int) (x9 : Int), I5 x8 x9 w7 →
      BoolK (decide ((x9 : Int) < (l1 : Nat)))
      ((0 ≤ (x9 : Int) ∧ (x9 : Int) < (l1 : Nat)) ∧
        AddrK a1 fun b10 =>
        ∃ (x11 : Int), w7.cell? ((b10.add ((x9 : Int).toNat * 2)).add 0) = some (.int .i64 x11) ∧
        (∃ (x12 : Int), w7.cell? ((b10.add ((x9 : Int).toNat * 2)).add 1) = some (.int .i64 x12) ∧
          (AllocK w7 (#[.int .i64 0, .int .i64 0]) 55 fun b13 w14 =>
            SetK w14 (b13.add 0) (.int .i64 x11) fun w15 =>
            SetK w15 (b13.add 1) (.int .i64 x12) fun w16 =>
            (0 ≤ (1 : Int) ∧ (1 : Int) < (2 : Nat)) ∧
            ∃ (x17 : Int), w16.cell? (b13.add ((1 : Int).toNat * 1)) = some (.int .i64 x17) ∧
            ((0 ≤ (0 : Int) ∧ (0 : Int) < (2 : Nat)) ∧
              ∃ (x18 : Int), w16.cell? (b13.add ((0 : Int).toNat * 1)) = some (.int .i64 x18) ∧
              (I5 (IntKind.wrap .i64 (x8 + (IntKind.wrap .i64 ((IntKind.wrap .i64 (x17 - x18)) + 1)))) (IntKind.wrap .i64 (x9 + 1)) w16 ∧ μ6 (IntKind.wrap .i64 (x8 + (IntKind.wrap .i64 ((IntKind.wrap .i64 (x17 - x18)) + 1)))) (IntKind.wrap .i64 (x9 + 1)) w16 < μ6 x8 x9 w7)))))
      (K x8 w7)))
def ann39 : Ann := (.two .nil (.two (.two .nil (.two (.two .nil .nil) .nil)) (.two .nil (.two (.two .nil (.one (.loop [(3, (.one (.int .i64))), (11, (.one (.int .i64)))] [9, 10] (.two .nil (.two (.two .nil .nil) (.two (.one (.two .nil .nil)) .nil)))))) (.two .nil .nil)))))
noncomputable def code39 : Code := match Try.f39.body with | some c => c | none => .skip
theorem wp39 (a1 : Option Addr) (l1 : Nat) (c1 : Nat) (K : Int → World → Prop) (w : World) : WP Try.prog tab code39 ann39 (fnQ tab Try.f39.results.toList [(.one (.int .i64))] K) (argE 0 [(.slice a1 l1 c1)]) w = N39 a1 l1 c1 K w := by kernel_rfl
theorem calls39 (a1 : Option Addr) (l1 : Nat) (c1 : Nat) (K : Int → World → Prop) (w : World) (h : N39 a1 l1 c1 K w) : Calls Try.prog 39 #[(.slice a1 l1 c1)] w fun en w' => ∃ (x19 : Int), en = .returned (.int .i64 x19) ∧ K x19 w' :=
  have e : (fun en w' => ExShs [(.one (.int .i64))] fun vs => en = .returned (tupled vs) ∧ ap [(.one (.int .i64))] K vs fun p => p w') = (fun (en : Ending) (w' : World) => ∃ (x19 : Int), en = .returned (.int .i64 x19) ∧ K x19 w') := by kernel_rfl
  e ▸ fn_sound tabOk mixed Try.func39 (by kernel_rfl : Try.f39.body = some code39) ann39 [(.slice a1 l1 c1)] [(.one (.int .i64))] K w (by kernel_rfl) ((wp39 a1 l1 c1 K w).symm ▸ h)
end Go.Proofs.Ytggfnakhmjkoeaa

namespace Go.Proofs.Ytggfnakhmjkoeaa
open Go Go.V Go.Proofs
open Go.RowKit (Below)
/-! manystrand/manystrandref06.Size -/
def N40 (a1 : Option Addr) (l1 : Nat) (c1 : Nat) (K : Int → World → Prop) (w : World) : Prop :=
  Calls Try.prog 36 #[(.slice a1 l1 c1)] w fun e4 w3 =>
  ∃ (a2 : Option Addr), ∃ (l2 : Nat), ∃ (c2 : Nat), e4 = .returned (.slice a2 l2 c2) ∧
  (K (l2 : Nat) w3)
def ann40 : Ann := (.two .nil (.two .nil .nil))
noncomputable def code40 : Code := match Try.f40.body with | some c => c | none => .skip
theorem wp40 (a1 : Option Addr) (l1 : Nat) (c1 : Nat) (K : Int → World → Prop) (w : World) : WP Try.prog tab code40 ann40 (fnQ tab Try.f40.results.toList [(.one (.int .i64))] K) (argE 0 [(.slice a1 l1 c1)]) w = N40 a1 l1 c1 K w := by kernel_rfl
theorem calls40 (a1 : Option Addr) (l1 : Nat) (c1 : Nat) (K : Int → World → Prop) (w : World) (h : N40 a1 l1 c1 K w) : Calls Try.prog 40 #[(.slice a1 l1 c1)] w fun en w' => ∃ (x5 : Int), en = .returned (.int .i64 x5) ∧ K x5 w' :=
  have e : (fun en w' => ExShs [(.one (.int .i64))] fun vs => en = .returned (tupled vs) ∧ ap [(.one (.int .i64))] K vs fun p => p w') = (fun (en : Ending) (w' : World) => ∃ (x5 : Int), en = .returned (.int .i64 x5) ∧ K x5 w') := by kernel_rfl
  e ▸ fn_sound tabOk mixed Try.func40 (by kernel_rfl : Try.f40.body = some code40) ann40 [(.slice a1 l1 c1)] [(.one (.int .i64))] K w (by kernel_rfl) ((wp40 a1 l1 c1 K w).symm ▸ h)
end Go.Proofs.Ytggfnakhmjkoeaa

namespace Go.Proofs.Ytggfnakhmjkoeaa
open Go Go.V Go.Proofs
open Go.RowKit (Below)
/-! manystrand/domain.both -/
def N60 (a1 : Option Addr) (l1 : Nat) (c1 : Nat) (a2 : Option Addr) (l2 : Nat) (c2 : Nat) (g3 : FuncId) (K : Option Addr → Nat → Nat → Int → World → Prop) (w : World) : Prop :=
  Calls Try.prog 32 #[(.slice a1 l1 c1)] w fun e6 w5 =>
  ∃ (p4 : Bool), e6 = .returned (.bool p4) ∧
  (BoolK (!p4)
    (K none 0 0 2 w5)
    (Calls Try.prog 32 #[(.slice a2 l2 c2)] w5 fun e9 w8 =>
      ∃ (p7 : Bool), e9 = .returned (.bool p7) ∧
      (BoolK (!p7)
        (K none 0 0 2 w8)
        (Calls Try.prog 81 #[(.slice a1 l1 c1)] w8 fun e12 w11 =>
          ∃ (o10 : Option Addr), e12 = .returned (.pointer o10) ∧
          (Calls Try.prog 81 #[(.slice a2 l2 c2)] w11 fun e15 w14 =>
            ∃ (o13 : Option Addr), e15 = .returned (.pointer o13) ∧
            (∃ (I16 : Int → World → Prop) (μ17 : Int → World → Nat),
              (I16 0 w14 ∧ True) ∧
              ∀ (w18 : World) (x19 : Int), I16 x19 w18 →
              BoolK (decide ((x19 : Int) < 1001))
              (DrewK w18 fun w20 =>
                AddrK o10 fun b21 =>
                (0 ≤ (x19 : Int) ∧ (x19 : Int) < (1001 : Nat)) ∧
                ∃ (p22 : Bool), w20.cell? (b21.add ((x19 : Int).toNat * 1)) = some (.bool p22) ∧
                (AddrK o13 fun b23 =>
                  (0 ≤ (x19 : Int) ∧ (x19 : Int) < (1001 : Nat)) ∧
                  ∃ (p24 : Bool), w20.cell? (b23.add ((x19 : Int).toNat * 1)) = some (.bool p24) ∧
                  (AddrK o10 fun b25 =>
                    Enters Try.prog g3 ∧
                    (Calls Try.prog g3 #[(.bool p22), (.bool p24)] w20 fun e28 w27 =>
                      ∃ (p26 : Bool), e28 = .returned (.bool p26) ∧
                      (Below w20.heap.size w20 w27 ∧
                        ((0 ≤ (x19 : Int) ∧ (x19 : Int) < (1001 : Nat)) ∧
                          SetK w27 (b25.add ((x19 : Int).toNat * 1)) (.bool p26) fun w29 =>
                          I16 (IntKind.wrap .i64 (x19 + 1)) w29 ∧ μ17 (IntKind.wrap .i64 (x19 + 1)) w29 < μ17 x19 w18))))))
              (Calls Try.prog 65 #[(.pointer o10)] w18 fun e32 w31 =>
                ∃ (a30 : Option Addr), ∃ (l30 : Nat), ∃ (c30 : Nat), e32 = .returned (.slice a30 l30 c30) ∧
                (K a30 l30 c30 0 w31))))))))
def ann60 : Ann := (.two .nil (.two (.two .nil (.two (.two .nil .nil) .nil)) (.two .nil (.two (.two .nil (.one (.loop [(23, (.one (.int .i64)))] [2, 8, 9] (.two .nil (.two (.two .nil .nil) (.two (.one (.two .nil (.any 16 (.take 0 (.take 1 (.take 2 (.take 3 (.take 4 (.take 5 (.take 6 (.take 7 (.take 8 (.take 9 (.take 10 (.take 11 (.take 12 (.take 14 (.one 13 (.take 15 .done))))))))))))))))))) .nil)))))) (.two .nil .nil)))))
noncomputable def code60 : Code := match Try.f60.body with | some c => c | none => .skip
theorem wp60 (a1 : Option Addr) (l1 : Nat) (c1 : Nat) (a2 : Option Addr) (l2 : Nat) (c2 : Nat) (g3 : FuncId) (K : Option Addr → Nat → Nat → Int → World → Prop) (w : World) : WP Try.prog tab code60 ann60 (fnQ tab Try.f60.results.toList [(.one .slice), (.one (.int .i64))] K) (argE 0 [(.slice a1 l1 c1), (.slice a2 l2 c2), (.func (.func g3) #[] #[])]) w = N60 a1 l1 c1 a2 l2 c2 g3 K w := by kernel_rfl
theorem calls60 (a1 : Option Addr) (l1 : Nat) (c1 : Nat) (a2 : Option Addr) (l2 : Nat) (c2 : Nat) (g3 : FuncId) (K : Option Addr → Nat → Nat → Int → World → Prop) (w : World) (h : N60 a1 l1 c1 a2 l2 c2 g3 K w) : Calls Try.prog 60 #[(.slice a1 l1 c1), (.slice a2 l2 c2), (.func (.func g3) #[] #[])] w fun en w' => ∃ (a33 : Option Addr), ∃ (l33 : Nat), ∃ (c33 : Nat), ∃ (x34 : Int), en = .returned (.tuple #[(.slice a33 l33 c33), (.int .i64 x34)]) ∧ K a33 l33 c33 x34 w' :=
  have e : (fun en w' => ExShs [(.one .slice), (.one (.int .i64))] fun vs => en = .returned (tupled vs) ∧ ap [(.one .slice), (.one (.int .i64))] K vs fun p => p w') = (fun (en : Ending) (w' : World) => ∃ (a33 : Option Addr), ∃ (l33 : Nat), ∃ (c33 : Nat), ∃ (x34 : Int), en = .returned (.tuple #[(.slice a33 l33 c33), (.int .i64 x34)]) ∧ K a33 l33 c33 x34 w') := by kernel_rfl
  e ▸ fn_sound tabOk mixed Try.func60 (by kernel_rfl : Try.f60.body = some code60) ann60 [(.slice a1 l1 c1), (.slice a2 l2 c2), (.func (.func g3) #[] #[])] [(.one .slice), (.one (.int .i64))] K w (by kernel_rfl) ((wp60 a1 l1 c1 a2 l2 c2 g3 K w).symm ▸ h)
end Go.Proofs.Ytggfnakhmjkoeaa

namespace Go.Proofs.Ytggfnakhmjkoeaa
open Go Go.V Go.Proofs
open Go.RowKit (Below)
/-! manystrand/domain.Meet$1 -/
def N61 (p1 : Bool) (p2 : Bool) (K : Bool → World → Prop) (w : World) : Prop :=
  BoolK p1
  (K p2 w)
  (K false w)
def ann61 : Ann := (.two .nil (.two .nil .nil))
noncomputable def code61 : Code := match Try.f61.body with | some c => c | none => .skip
theorem wp61 (p1 : Bool) (p2 : Bool) (K : Bool → World → Prop) (w : World) : WP Try.prog tab code61 ann61 (fnQ tab Try.f61.results.toList [(.one .bool)] K) (argE 0 [(.bool p1), (.bool p2)]) w = N61 p1 p2 K w := by kernel_rfl
theorem calls61 (p1 : Bool) (p2 : Bool) (K : Bool → World → Prop) (w : World) (h : N61 p1 p2 K w) : Calls Try.prog 61 #[(.bool p1), (.bool p2)] w fun en w' => ∃ (p3 : Bool), en = .returned (.bool p3) ∧ K p3 w' :=
  have e : (fun en w' => ExShs [(.one .bool)] fun vs => en = .returned (tupled vs) ∧ ap [(.one .bool)] K vs fun p => p w') = (fun (en : Ending) (w' : World) => ∃ (p3 : Bool), en = .returned (.bool p3) ∧ K p3 w') := by kernel_rfl
  e ▸ fn_sound tabOk mixed Try.func61 (by kernel_rfl : Try.f61.body = some code61) ann61 [(.bool p1), (.bool p2)] [(.one .bool)] K w (by kernel_rfl) ((wp61 p1 p2 K w).symm ▸ h)
end Go.Proofs.Ytggfnakhmjkoeaa

namespace Go.Proofs.Ytggfnakhmjkoeaa
open Go Go.V Go.Proofs
open Go.RowKit (Below)
/-! manystrand/domain.Minus$1 -/
def N62 (p1 : Bool) (p2 : Bool) (K : Bool → World → Prop) (w : World) : Prop :=
  BoolK p1
  (K (!p2) w)
  (K false w)
def ann62 : Ann := (.two .nil (.two .nil .nil))
noncomputable def code62 : Code := match Try.f62.body with | some c => c | none => .skip
theorem wp62 (p1 : Bool) (p2 : Bool) (K : Bool → World → Prop) (w : World) : WP Try.prog tab code62 ann62 (fnQ tab Try.f62.results.toList [(.one .bool)] K) (argE 0 [(.bool p1), (.bool p2)]) w = N62 p1 p2 K w := by kernel_rfl
theorem calls62 (p1 : Bool) (p2 : Bool) (K : Bool → World → Prop) (w : World) (h : N62 p1 p2 K w) : Calls Try.prog 62 #[(.bool p1), (.bool p2)] w fun en w' => ∃ (p3 : Bool), en = .returned (.bool p3) ∧ K p3 w' :=
  have e : (fun en w' => ExShs [(.one .bool)] fun vs => en = .returned (tupled vs) ∧ ap [(.one .bool)] K vs fun p => p w') = (fun (en : Ending) (w' : World) => ∃ (p3 : Bool), en = .returned (.bool p3) ∧ K p3 w') := by kernel_rfl
  e ▸ fn_sound tabOk mixed Try.func62 (by kernel_rfl : Try.f62.body = some code62) ann62 [(.bool p1), (.bool p2)] [(.one .bool)] K w (by kernel_rfl) ((wp62 p1 p2 K w).symm ▸ h)
end Go.Proofs.Ytggfnakhmjkoeaa

namespace Go.Proofs.Ytggfnakhmjkoeaa
open Go Go.V Go.Proofs
open Go.RowKit (Below)
/-! manystrand/manystrandref06.both -/
def N63 (a1 : Option Addr) (l1 : Nat) (c1 : Nat) (a2 : Option Addr) (l2 : Nat) (c2 : Nat) (p3 : Bool) (p4 : Bool) (p5 : Bool) (K : Option Addr → Nat → Nat → Int → World → Prop) (w : World) : Prop :=
  Calls Try.prog 33 #[(.slice a1 l1 c1)] w fun e8 w7 =>
  ∃ (p6 : Bool), e8 = .returned (.bool p6) ∧
  (BoolK (!p6)
    (K none 0 0 2 w7)
    (Calls Try.prog 33 #[(.slice a2 l2 c2)] w7 fun e11 w10 =>
      ∃ (p9 : Bool), e11 = .returned (.bool p9) ∧
      (BoolK (!p9)
        (K none 0 0 2 w10)
        (Calls Try.prog 83 #[(.slice a1 l1 c1)] w10 fun e14 w13 =>
          ∃ (r12 : Array Value), e14 = .returned (.agg r12) ∧
          (Calls Try.prog 83 #[(.slice a2 l2 c2)] w13 fun e17 w16 =>
            ∃ (r15 : Array Value), e17 = .returned (.agg r15) ∧
            (AllocK w16 (zeroOf Try.prog 71) 71 fun b18 w19 =>
              AllocK w19 (zeroOf Try.prog 71) 71 fun b20 w21 =>
              StRow w21 b18 r12 1001 fun w22 =>
              StRow w22 b20 r15 1001 fun w23 =>
              AllocK w23 (zeroOf Try.prog 71) 71 fun b24 w25 =>
              ∃ (I26 : Int → World → Prop) (μ27 : Int → World → Nat),
              (I26 0 w25 ∧ True) ∧
              ∀ (w28 : World) (x29 : Int), I26 x29 w28 →
              BoolK (decide ((x29 : Int) ≤ 1000))
              ((0 ≤ (x29 : Int) ∧ (x29 : Int) < (1001 : Nat)) ∧
                ∃ (p30 : Bool), w28.cell? (b18.add ((x29 : Int).toNat * 1)) = some (.bool p30) ∧
                (BoolK p30
                  ((0 ≤ (x29 : Int) ∧ (x29 : Int) < (1001 : Nat)) ∧
                    ∃ (p31 : Bool), w28.cell? (b20.add ((x29 : Int).toNat * 1)) = some (.bool p31) ∧
                    (BoolK p31
                      (BoolK p3
                        ((0 ≤ (x29 : Int) ∧ (x29 : Int) < (1001 : Nat)) ∧
                          SetK w28 (b24.add ((x29 : Int).toNat * 1)) (.bool true) fun w32 =>
                          I26 (IntKind.wrap .i64 (x29 + 1)) w32 ∧ μ27 (IntKind.wrap .i64 (x29 + 1)) w32 < μ27 x29 w28)
                        ((0 ≤ (x29 : Int) ∧ (x29 : Int) < (1001 : Nat)) ∧
                          ∃ (p33 : Bool), w28.cell? (b18.add ((x29 : Int).toNat * 1)) = some (.bool p33) ∧
                          (BoolK p33
                            ((0 ≤ (x29 : Int) ∧ (x29 : Int) < (1001 : Nat)) ∧
                              ∃ (p34 : Bool), w28.cell? (b20.add ((x29 : Int).toNat * 1)) = some (.bool p34) ∧
                              (BoolK (!p34)
                                (BoolK p4
                                  ((0 ≤ (x29 : Int) ∧ (x29 : Int) < (1001 : Nat)) ∧
                                    SetK w28 (b24.add ((x29 : Int).toNat * 1)) (.bool true) fun w35 =>
                                    I26 (IntKind.wrap .i64 (x29 + 1)) w35 ∧ μ27 (IntKind.wrap .i64 (x29 + 1)) w35 < μ27 x29 w28)
                                  ((0 ≤ (x29 : Int) ∧ (x29 : Int) < (1001 : Nat)) ∧
                                    ∃ (p36 : Bool), w28.cell? (b18.add ((x29 : Int).toNat * 1)) = some (.bool p36) ∧
                                    (BoolK (!p36)
                                      ((0 ≤ (x29 : Int) ∧ (x29 : Int) < (1001 : Nat)) ∧
                                        ∃ (p37 : Bool), w28.cell? (b20.add ((x29 : Int).toNat * 1)) = some (.bool p37) ∧
                                        (BoolK p37
                                          ((0 ≤ (x29 : Int) ∧ (x29 : Int) < (1001 : Nat)) ∧
                                            SetK w28 (b24.add ((x29 : Int).toNat * 1)) (.bool p5) fun w38 =>
                                            I26 (IntKind.wrap .i64 (x29 + 1)) w38 ∧ μ27 (IntKind.wrap .i64 (x29 + 1)) w38 < μ27 x29 w28)
                                          ((0 ≤ (x29 : Int) ∧ (x29 : Int) < (1001 : Nat)) ∧
                                            SetK w28 (b24.add ((x29 : Int).toNat * 1)) (.bool false) fun w39 =>
                                            I26 (IntKind.wrap .i64 (x29 + 1)) w39 ∧ μ27 (IntKind.wrap .i64 (x29 + 1)) w39 < μ27 x29 w28)))
                                      ((0 ≤ (x29 : Int) ∧ (x29 : Int) < (1001 : Nat)) ∧
                                        SetK w28 (b24.add ((x29 : Int).toNat * 1)) (.bool false) fun w40 =>
                                        I26 (IntKind.wrap .i64 (x29 + 1)) w40 ∧ μ27 (IntKind.wrap .i64 (x29 + 1)) w40 < μ27 x29 w28))))
                                ((0 ≤ (x29 : Int) ∧ (x29 : Int) < (1001 : Nat)) ∧
                                  ∃ (p41 : Bool), w28.cell? (b18.add ((x29 : Int).toNat * 1)) = some (.bool p41) ∧
                                  (BoolK (!p41)
                                    ((0 ≤ (x29 : Int) ∧ (x29 : Int) < (1001 : Nat)) ∧
                                      ∃ (p42 : Bool), w28.cell? (b20.add ((x29 : Int).toNat * 1)) = some (.bool p42) ∧
                                      (BoolK p42
                                        ((0 ≤ (x29 : Int) ∧ (x29 : Int) < (1001 : Nat)) ∧
                                          SetK w28 (b24.add ((x29 : Int).toNat * 1)) (.bool p5) fun w43 =>
                                          I26 (IntKind.wrap .i64 (x29 + 1)) w43 ∧ μ27 (IntKind.wrap .i64 (x29 + 1)) w43 < μ27 x29 w28)
                                        ((0 ≤ (x29 : Int) ∧ (x29 : Int) < (1001 : Nat)) ∧
                                          SetK w28 (b24.add ((x29 : Int).toNat * 1)) (.bool false) fun w44 =>
                                          I26 (IntKind.wrap .i64 (x29 + 1)) w44 ∧ μ27 (IntKind.wrap .i64 (x29 + 1)) w44 < μ27 x29 w28)))
                                    ((0 ≤ (x29 : Int) ∧ (x29 : Int) < (1001 : Nat)) ∧
                                      SetK w28 (b24.add ((x29 : Int).toNat * 1)) (.bool false) fun w45 =>
                                      I26 (IntKind.wrap .i64 (x29 + 1)) w45 ∧ μ27 (IntKind.wrap .i64 (x29 + 1)) w45 < μ27 x29 w28)))))
                            ((0 ≤ (x29 : Int) ∧ (x29 : Int) < (1001 : Nat)) ∧
                              ∃ (p46 : Bool), w28.cell? (b18.add ((x29 : Int).toNat * 1)) = some (.bool p46) ∧
                              (BoolK (!p46)
                                ((0 ≤ (x29 : Int) ∧ (x29 : Int) < (1001 : Nat)) ∧
                                  ∃ (p47 : Bool), w28.cell? (b20.add ((x29 : Int).toNat * 1)) = some (.bool p47) ∧
                                  (BoolK p47
                                    ((0 ≤ (x29 : Int) ∧ (x29 : Int) < (1001 : Nat)) ∧
                                      SetK w28 (b24.add ((x29 : Int).toNat * 1)) (.bool p5) fun w48 =>
                                      I26 (IntKind.wrap .i64 (x29 + 1)) w48 ∧ μ27 (IntKind.wrap .i64 (x29 + 1)) w48 < μ27 x29 w28)
                                    ((0 ≤ (x29 : Int) ∧ (x29 : Int) < (1001 : Nat)) ∧
                                      SetK w28 (b24.add ((x29 : Int).toNat * 1)) (.bool false) fun w49 =>
                                      I26 (IntKind.wrap .i64 (x29 + 1)) w49 ∧ μ27 (IntKind.wrap .i64 (x29 + 1)) w49 < μ27 x29 w28)))
                                ((0 ≤ (x29 : Int) ∧ (x29 : Int) < (1001 : Nat)) ∧
                                  SetK w28 (b24.add ((x29 : Int).toNat * 1)) (.bool false) fun w50 =>
                                  I26 (IntKind.wrap .i64 (x29 + 1)) w50 ∧ μ27 (IntKind.wrap .i64 (x29 + 1)) w50 < μ27 x29 w28))))))
                      ((0 ≤ (x29 : Int) ∧ (x29 : Int) < (1001 : Nat)) ∧
                        ∃ (p51 : Bool), w28.cell? (b18.add ((x29 : Int).toNat * 1)) = some (.bool p51) ∧
                        (BoolK p51
                          ((0 ≤ (x29 : Int) ∧ (x29 : Int) < (1001 : Nat)) ∧
                            ∃ (p52 : Bool), w28.cell? (b20.add ((x29 : Int).toNat * 1)) = some (.bool p52) ∧
                            (BoolK (!p52)
                              (BoolK p4
                                ((0 ≤ (x29 : Int) ∧ (x29 : Int) < (1001 : Nat)) ∧
                                  SetK w28 (b24.add ((x29 : Int).toNat * 1)) (.bool true) fun w53 =>
                                  I26 (IntKind.wrap .i64 (x29 + 1)) w53 ∧ μ27 (IntKind.wrap .i64 (x29 + 1)) w53 < μ27 x29 w28)
                                ((0 ≤ (x29 : Int) ∧ (x29 : Int) < (1001 : Nat)) ∧
                                  ∃ (p54 : Bool), w28.cell? (b18.add ((x29 : Int).toNat * 1)) = some (.bool p54) ∧
                                  (BoolK (!p54)
                                    ((0 ≤ (x29 : Int) ∧ (x29 : Int) < (1001 : Nat)) ∧
                                      ∃ (p55 : Bool), w28.cell? (b20.add ((x29 : Int).toNat * 1)) = some (.bool p55) ∧
                                      (BoolK p55
                                        ((0 ≤ (x29 : Int) ∧ (x29 : Int) < (1001 : Nat)) ∧
                                          SetK w28 (b24.add ((x29 : Int).toNat * 1)) (.bool p5) fun w56 =>
                                          I26 (IntKind.wrap .i64 (x29 + 1)) w56 ∧ μ27 (IntKind.wrap .i64 (x29 + 1)) w56 < μ27 x29 w28)
                                        ((0 ≤ (x29 : Int) ∧ (x29 : Int) < (1001 : Nat)) ∧
                                          SetK w28 (b24.add ((x29 : Int).toNat * 1)) (.bool false) fun w57 =>
                                          I26 (IntKind.wrap .i64 (x29 + 1)) w57 ∧ μ27 (IntKind.wrap .i64 (x29 + 1)) w57 < μ27 x29 w28)))
                                    ((0 ≤ (x29 : Int) ∧ (x29 : Int) < (1001 : Nat)) ∧
                                      SetK w28 (b24.add ((x29 : Int).toNat * 1)) (.bool false) fun w58 =>
                                      I26 (IntKind.wrap .i64 (x29 + 1)) w58 ∧ μ27 (IntKind.wrap .i64 (x29 + 1)) w58 < μ27 x29 w28))))
                              ((0 ≤ (x29 : Int) ∧ (x29 : Int) < (1001 : Nat)) ∧
                                ∃ (p59 : Bool), w28.cell? (b18.add ((x29 : Int).toNat * 1)) = some (.bool p59) ∧
                                (BoolK (!p59)
                                  ((0 ≤ (x29 : Int) ∧ (x29 : Int) < (1001 : Nat)) ∧
                                    ∃ (p60 : Bool), w28.cell? (b20.add ((x29 : Int).toNat * 1)) = some (.bool p60) ∧
                                    (BoolK p60
                                      ((0 ≤ (x29 : Int) ∧ (x29 : Int) < (1001 : Nat)) ∧
                                        SetK w28 (b24.add ((x29 : Int).toNat * 1)) (.bool p5) fun w61 =>
                                        I26 (IntKind.wrap .i64 (x29 + 1)) w61 ∧ μ27 (IntKind.wrap .i64 (x29 + 1)) w61 < μ27 x29 w28)
                                      ((0 ≤ (x29 : Int) ∧ (x29 : Int) < (1001 : Nat)) ∧
                                        SetK w28 (b24.add ((x29 : Int).toNat * 1)) (.bool false) fun w62 =>
                                        I26 (IntKind.wrap .i64 (x29 + 1)) w62 ∧ μ27 (IntKind.wrap .i64 (x29 + 1)) w62 < μ27 x29 w28)))
                                  ((0 ≤ (x29 : Int) ∧ (x29 : Int) < (1001 : Nat)) ∧
                                    SetK w28 (b24.add ((x29 : Int).toNat * 1)) (.bool false) fun w63 =>
                                    I26 (IntKind.wrap .i64 (x29 + 1)) w63 ∧ μ27 (IntKind.wrap .i64 (x29 + 1)) w63 < μ27 x29 w28)))))
                          ((0 ≤ (x29 : Int) ∧ (x29 : Int) < (1001 : Nat)) ∧
                            ∃ (p64 : Bool), w28.cell? (b18.add ((x29 : Int).toNat * 1)) = some (.bool p64) ∧
                            (BoolK (!p64)
                              ((0 ≤ (x29 : Int) ∧ (x29 : Int) < (1001 : Nat)) ∧
                                ∃ (p65 : Bool), w28.cell? (b20.add ((x29 : Int).toNat * 1)) = some (.bool p65) ∧
                                (BoolK p65
                                  ((0 ≤ (x29 : Int) ∧ (x29 : Int) < (1001 : Nat)) ∧
                                    SetK w28 (b24.add ((x29 : Int).toNat * 1)) (.bool p5) fun w66 =>
                                    I26 (IntKind.wrap .i64 (x29 + 1)) w66 ∧ μ27 (IntKind.wrap .i64 (x29 + 1)) w66 < μ27 x29 w28)
                                  ((0 ≤ (x29 : Int) ∧ (x29 : Int) < (1001 : Nat)) ∧
                                    SetK w28 (b24.add ((x29 : Int).toNat * 1)) (.bool false) fun w67 =>
                                    I26 (IntKind.wrap .i64 (x29 + 1)) w67 ∧ μ27 (IntKind.wrap .i64 (x29 + 1)) w67 < μ27 x29 w28)))
                              ((0 ≤ (x29 : Int) ∧ (x29 : Int) < (1001 : Nat)) ∧
                                SetK w28 (b24.add ((x29 : Int).toNat * 1)) (.bool false) fun w68 =>
                                I26 (IntKind.wrap .i64 (x29 + 1)) w68 ∧ μ27 (IntKind.wrap .i64 (x29 + 1)) w68 < μ27 x29 w28)))))))
                  ((0 ≤ (x29 : Int) ∧ (x29 : Int) < (1001 : Nat)) ∧
                    ∃ (p69 : Bool), w28.cell? (b18.add ((x29 : Int).toNat * 1)) = some (.bool p69) ∧
                    (BoolK p69
                      ((0 ≤ (x29 : Int) ∧ (x29 : Int) < (1001 : Nat)) ∧
                        ∃ (p70 : Bool), w28.cell? (b20.add ((x29 : Int).toNat * 1)) = some (.bool p70) ∧
                        (BoolK (!p70)
                          (BoolK p4
                            ((0 ≤ (x29 : Int) ∧ (x29 : Int) < (1001 : Nat)) ∧
                              SetK w28 (b24.add ((x29 : Int).toNat * 1)) (.bool true) fun w71 =>
                              I26 (IntKind.wrap .i64 (x29 + 1)) w71 ∧ μ27 (IntKind.wrap .i64 (x29 + 1)) w71 < μ27 x29 w28)
                            ((0 ≤ (x29 : Int) ∧ (x29 : Int) < (1001 : Nat)) ∧
                              ∃ (p72 : Bool), w28.cell? (b18.add ((x29 : Int).toNat * 1)) = some (.bool p72) ∧
                              (BoolK (!p72)
                                ((0 ≤ (x29 : Int) ∧ (x29 : Int) < (1001 : Nat)) ∧
                                  ∃ (p73 : Bool), w28.cell? (b20.add ((x29 : Int).toNat * 1)) = some (.bool p73) ∧
                                  (BoolK p73
                                    ((0 ≤ (x29 : Int) ∧ (x29 : Int) < (1001 : Nat)) ∧
                                      SetK w28 (b24.add ((x29 : Int).toNat * 1)) (.bool p5) fun w74 =>
                                      I26 (IntKind.wrap .i64 (x29 + 1)) w74 ∧ μ27 (IntKind.wrap .i64 (x29 + 1)) w74 < μ27 x29 w28)
                                    ((0 ≤ (x29 : Int) ∧ (x29 : Int) < (1001 : Nat)) ∧
                                      SetK w28 (b24.add ((x29 : Int).toNat * 1)) (.bool false) fun w75 =>
                                      I26 (IntKind.wrap .i64 (x29 + 1)) w75 ∧ μ27 (IntKind.wrap .i64 (x29 + 1)) w75 < μ27 x29 w28)))
                                ((0 ≤ (x29 : Int) ∧ (x29 : Int) < (1001 : Nat)) ∧
                                  SetK w28 (b24.add ((x29 : Int).toNat * 1)) (.bool false) fun w76 =>
                                  I26 (IntKind.wrap .i64 (x29 + 1)) w76 ∧ μ27 (IntKind.wrap .i64 (x29 + 1)) w76 < μ27 x29 w28))))
                          ((0 ≤ (x29 : Int) ∧ (x29 : Int) < (1001 : Nat)) ∧
                            ∃ (p77 : Bool), w28.cell? (b18.add ((x29 : Int).toNat * 1)) = some (.bool p77) ∧
                            (BoolK (!p77)
                              ((0 ≤ (x29 : Int) ∧ (x29 : Int) < (1001 : Nat)) ∧
                                ∃ (p78 : Bool), w28.cell? (b20.add ((x29 : Int).toNat * 1)) = some (.bool p78) ∧
                                (BoolK p78
                                  ((0 ≤ (x29 : Int) ∧ (x29 : Int) < (1001 : Nat)) ∧
                                    SetK w28 (b24.add ((x29 : Int).toNat * 1)) (.bool p5) fun w79 =>
                                    I26 (IntKind.wrap .i64 (x29 + 1)) w79 ∧ μ27 (IntKind.wrap .i64 (x29 + 1)) w79 < μ27 x29 w28)
                                  ((0 ≤ (x29 : Int) ∧ (x29 : Int) < (1001 : Nat)) ∧
                                    SetK w28 (b24.add ((x29 : Int).toNat * 1)) (.bool false) fun w80 =>
                                    I26 (IntKind.wrap .i64 (x29 + 1)) w80 ∧ μ27 (IntKind.wrap .i64 (x29 + 1)) w80 < μ27 x29 w28)))
                              ((0 ≤ (x29 : Int) ∧ (x29 : Int) < (1001 : Nat)) ∧
                                SetK w28 (b24.add ((x29 : Int).toNat * 1)) (.bool false) fun w81 =>
                                I26 (IntKind.wrap .i64 (x29 + 1)) w81 ∧ μ27 (IntKind.wrap .i64 (x29 + 1)) w81 < μ27 x29 w28)))))
                      ((0 ≤ (x29 : Int) ∧ (x29 : Int) < (1001 : Nat)) ∧
                        ∃ (p82 : Bool), w28.cell? (b18.add ((x29 : Int).toNat * 1)) = some (.bool p82) ∧
                        (BoolK (!p82)
                          ((0 ≤ (x29 : Int) ∧ (x29 : Int) < (1001 : Nat)) ∧
                            ∃ (p83 : Bool), w28.cell? (b20.add ((x29 : Int).toNat * 1)) = some (.bool p83) ∧
                            (BoolK p83
                              ((0 ≤ (x29 : Int) ∧ (x29 : Int) < (1001 : Nat)) ∧
                                SetK w28 (b24.add ((x29 : Int).toNat * 1)) (.bool p5) fun w84 =>
                                I26 (IntKind.wrap .i64 (x29 + 1)) w84 ∧ μ27 (IntKind.wrap .i64 (x29 + 1)) w84 < μ27 x29 w28)
                              ((0 ≤ (x29 : Int) ∧ (x29 : Int) < (1001 : Nat)) ∧
                                SetK w28 (b24.add ((x29 : Int).toNat * 1)) (.bool false) fun w85 =>
                                I26 (IntKind.wrap .i64 (x29 + 1)) w85 ∧ μ27 (IntKind.wrap .i64 (x29 + 1)) w85 < μ27 x29 w28)))
                          ((0 ≤ (x29 : Int) ∧ (x29 : Int) < (1001 : Nat)) ∧
                            SetK w28 (b24.add ((x29 : Int).toNat * 1)) (.bool false) fun w86 =>
                            I26 (IntKind.wrap .i64 (x29 + 1)) w86 ∧ μ27 (IntKind.wrap .i64 (x29 + 1)) w86 < μ27 x29 w28)))))))
              (∃ (r87 : Array Value), RowAt w28 b24 r87 1001 ∧
                (Calls Try.prog 66 #[(.agg r87)] w28 fun e90 w89 =>
                  ∃ (a88 : Option Addr), ∃ (l88 : Nat), ∃ (c88 : Nat), e90 = .returned (.slice a88 l88 c88) ∧
                  (K a88 l88 c88 0 w89)))))))))
def ann63 : Ann := (.two .nil (.two (.two .nil (.two (.two .nil .nil) .nil)) (.two .nil (.two .nil (.two (.two .nil (.one (.loop [(15, (.one (.int .i64)))] [2, 3, 4, 12, 13, 14] (.two (.two .nil (.two .nil .nil)) (.two (.one .nil) .nil))))) (.two .nil .nil))))))
noncomputable def code63 : Code := match Try.f63.body with | some c => c | none => .skip
theorem wp63 (a1 : Option Addr) (l1 : Nat) (c1 : Nat) (a2 : Option Addr) (l2 : Nat) (c2 : Nat) (p3 : Bool) (p4 : Bool) (p5 : Bool) (K : Option Addr → Nat → Nat → Int → World → Prop) (w : World) : WP Try.prog tab code63 ann63 (fnQ tab Try.f63.results.toList [(.one .slice), (.one (.int .i64))] K) (argE 0 [(.slice a1 l1 c1), (.slice a2 l2 c2), (.bool p3), (.bool p4), (.bool p5)]) w = N63 a1 l1 c1 a2 l2 c2 p3 p4 p5 K w := by kernel_rfl
theorem calls63 (a1 : Option Addr) (l1 : Nat) (c1 : Nat) (a2 : Option Addr) (l2 : Nat) (c2 : Nat) (p3 : Bool) (p4 : Bool) (p5 : Bool) (K : Option Addr → Nat → Nat → Int → World → Prop) (w : World) (h : N63 a1 l1 c1 a2 l2 c2 p3 p4 p5 K w) : Calls Try.prog 63 #[(.slice a1 l1 c1), (.slice a2 l2 c2), (.bool p3), (.bool p4), (.bool p5)] w fun en w' => ∃ (a91 : Option Addr), ∃ (l91 : Nat), ∃ (c91 : Nat), ∃ (x92 : Int), en = .returned (.tuple #[(.slice a91 l91 c91), (.int .i64 x92)]) ∧ K a91 l91 c91 x92 w' :=
  have e : (fun en w' => ExShs [(.one .slice), (.one (.int .i64))] fun vs => en = .returned (tupled vs) ∧ ap [(.one .slice), (.one (.int .i64))] K vs fun p => p w') = (fun (en : Ending) (w' : World) => ∃ (a91 : Option Addr), ∃ (l91 : Nat), ∃ (c91 : Nat), ∃ (x92 : Int), en = .returned (.tuple #[(.slice a91 l91 c91), (.int .i64 x92)]) ∧ K a91 l91 c91 x92 w') := by kernel_rfl
  e ▸ fn_sound tabOk mixed Try.func63 (by kernel_rfl : Try.f63.body = some code63) ann63 [(.slice a1 l1 c1), (.slice a2 l2 c2), (.bool p3), (.bool p4), (.bool p5)] [(.one .slice), (.one (.int .i64))] K w (by kernel_rfl) ((wp63 a1 l1 c1 a2 l2 c2 p3 p4 p5 K w).symm ▸ h)
end Go.Proofs.Ytggfnakhmjkoeaa

namespace Go.Proofs.Ytggfnakhmjkoeaa
open Go Go.V Go.Proofs
open Go.RowKit (Below)
/-! manystrand/domain.Join$1 -/
def N64 (p1 : Bool) (p2 : Bool) (K : Bool → World → Prop) (w : World) : Prop :=
  BoolK p1
  (K true w)
  (K p2 w)
def ann64 : Ann := (.two .nil (.two .nil .nil))
noncomputable def code64 : Code := match Try.f64.body with | some c => c | none => .skip
theorem wp64 (p1 : Bool) (p2 : Bool) (K : Bool → World → Prop) (w : World) : WP Try.prog tab code64 ann64 (fnQ tab Try.f64.results.toList [(.one .bool)] K) (argE 0 [(.bool p1), (.bool p2)]) w = N64 p1 p2 K w := by kernel_rfl
theorem calls64 (p1 : Bool) (p2 : Bool) (K : Bool → World → Prop) (w : World) (h : N64 p1 p2 K w) : Calls Try.prog 64 #[(.bool p1), (.bool p2)] w fun en w' => ∃ (p3 : Bool), en = .returned (.bool p3) ∧ K p3 w' :=
  have e : (fun en w' => ExShs [(.one .bool)] fun vs => en = .returned (tupled vs) ∧ ap [(.one .bool)] K vs fun p => p w') = (fun (en : Ending) (w' : World) => ∃ (p3 : Bool), en = .returned (.bool p3) ∧ K p3 w') := by kernel_rfl
  e ▸ fn_sound tabOk mixed Try.func64 (by kernel_rfl : Try.f64.body = some code64) ann64 [(.bool p1), (.bool p2)] [(.one .bool)] K w (by kernel_rfl) ((wp64 p1 p2 K w).symm ▸ h)
end Go.Proofs.Ytggfnakhmjkoeaa

namespace Go.Proofs.Ytggfnakhmjkoeaa
open Go Go.V Go.Proofs
open Go.RowKit (Below)

/-- an answer: a domain, or the error of a wrong argument -/
def DomRes (base : Nat) (w' : World) (r : Option Dm) (a : Option Addr) (l c : Nat) (e : Int) : Prop :=
  match r with
  | none => a = none ∧ l = 0 ∧ e = 2
  | some d => e = 0 ∧ OwnR base 55 2 eP w' a l c d ∧ d.length ≤ 1001
theorem DomRes.dom {base : Nat} {w' : World} {r : Option Dm} {a : Option Addr} {l c : Nat} {e : Int} (h : DomRes base w' r a l c e) : Dom w' a l (r.getD []) ∧ e = (if r.isSome then 0 else 2) ∧ (r.getD []).length ≤ 1001 := by
  cases r with
  | none => obtain ⟨rfl, rfl, rfl⟩ := h; exact ⟨Go.V.Rows.nil _ _ _ _, rfl, by simp⟩
  | some d => obtain ⟨rfl, h, hl⟩ := h; exact ⟨h.dom, rfl, hl⟩

def ofS (l : List Int) : Option Dm := if l.all (fun x => decide (0 ≤ x ∧ x ≤ 1000)) then some (rngs (fun v => decide ((v : Int) ∈ l)) 1001) else none

theorem c30 (w : World) (a : Option Addr) (l c : Nat) (d : List Int) (h : Ints w a l d) (hl : d.length ≤ 9223372036854775807) :
    Calls Try.prog 30 #[.slice a l c] w fun en w' => ∃ a' l' c' e, en = .returned (.tuple #[.slice a' l' c', .int .i64 e]) ∧ (DomRes w.heap.size w' (ofS d) a' l' c' e ∧ Ext w w') := by
  refine calls30 a l c _ w ?_
  refine zero72.alloc fun b2 w3 hb2 hs3 hx3 => ?_
  have e1 := h.1
  refine ⟨fun i w' => ∃ k : Nat, i = k ∧ k ≤ d.length ∧ (d.take k).all (fun x => decide (0 ≤ x ∧ x ≤ 1000)) = true ∧ SetAt w' b2 (fun v => decide ((v : Int) ∈ d.take k)) ∧ But b2 w3 w', fun i _ => d.length - i.toNat, ⟨⟨0, rfl, by omega, rfl, by simpa using hs3, ⟨rfl, rfl, rfl, rfl, fun _ _ => rfl⟩⟩, trivial⟩, ?_⟩
  rintro w6 i ⟨k, rfl, hk, hall, hs, hbut⟩
  have hB : Ext w w6 := hbut.below hx3 (by omega)
  refine BoolK.mk (fun hlt => ?_) (fun hge => ?_)
  · have hlt : k < d.length := by simp at hlt; omega
    obtain ⟨b, o, rfl, h0⟩ := intAt h w6 hB hlt
    refine ⟨by omega, ?_⟩
    simp only [AddrK, Int.toNat_natCast, add_mk, Nat.mul_one, Nat.zero_add]
    refine ⟨_, h0, BoolK.mk (fun t => ?_) (fun t => ?_)⟩
    · simp at t
      exact ⟨by rw [ofS, all_false hlt (decide_eq_false (by omega))]; exact ⟨rfl, rfl, rfl⟩, hB⟩
    simp at t
    refine BoolK.mk (fun t2 => ?_) (fun t2 => ?_)
    · simp at t2
      exact ⟨by rw [ofS, all_false hlt (decide_eq_false (by omega))]; exact ⟨rfl, rfl, rfl⟩, hB⟩
    simp at t2
    rw [wrap_succ (by omega)]
    refine ⟨by omega, hs.set (i := (d[k]).toNat) (g := fun v => decide ((v : Int) ∈ d.take (k + 1))) (by omega) (fun j => ?_) fun w' hs' hb' => ⟨⟨k + 1, rfl, by omega, by rw [all_take hlt, hall, decide_eq_true (by omega)]; rfl, hs', hbut.trans hb'⟩, by simp; omega⟩⟩
    have e1 : d.take (k + 1) = d.take k ++ [d[k]] := by rw [List.take_add_one, List.getElem?_eq_getElem hlt]; rfl
    rw [e1]
    by_cases hj : j = (d[k]).toNat
    · rw [if_pos hj]; simp only [decide_eq_true_eq]; rw [List.mem_append]; right; rw [List.mem_singleton]; omega
    · rw [if_neg hj, decide_eq_decide, List.mem_append, List.mem_singleton]
      exact ⟨fun hh => hh.elim id (fun e => by omega), .inl⟩
  · have : k = d.length := by simp at hge; omega
    subst this
    rw [List.take_length] at hs hall
    refine (c65 w6 b2 _ hs).mono ?_
    rintro en w12 ⟨a', l', c', rfl, ho, hx12⟩
    refine ⟨_, _, _, rfl, ?_, hB.trans hx12⟩
    rw [ofS, hall]
    exact ⟨rfl, ho.mono hB.size, rngs_len _ _ (by omega)⟩

theorem c31 (w : World) (a : Option Addr) (l c : Nat) (d : List Int) (h : Ints w a l d) (hl : d.length ≤ 9223372036854775807) :
    Calls Try.prog 31 #[.slice a l c] w fun en w' => ∃ a' l' c' e, en = .returned (.tuple #[.slice a' l' c', .int .i64 e]) ∧ (DomRes w.heap.size w' (ofS d) a' l' c' e ∧ Ext w w') := by
  refine calls31 a l c _ w ?_
  refine zero71.alloc fun b2 w3 hb2 hs3 hx3 => ?_
  have e1 := h.1
  refine ⟨fun i w' => ∃ k : Nat, i = k ∧ k ≤ d.length ∧ (d.take k).all (fun x => decide (0 ≤ x ∧ x ≤ 1000)) = true ∧ SetAt w' b2 (fun v => decide ((v : Int) ∈ d.take k)) ∧ But b2 w3 w', fun i _ => d.length - i.toNat, ⟨⟨0, rfl, by omega, rfl, by simpa using hs3, ⟨rfl, rfl, rfl, rfl, fun _ _ => rfl⟩⟩, trivial⟩, ?_⟩
  rintro w6 i ⟨k, rfl, hk, hall, hs, hbut⟩
  have hB : Ext w w6 := hbut.below hx3 (by omega)
  refine BoolK.mk (fun hlt => ?_) (fun hge => ?_)
  · have hlt : k < d.length := by simp at hlt; omega
    obtain ⟨b, o, rfl, h0⟩ := intAt h w6 hB hlt
    refine ⟨by omega, ?_⟩
    simp only [AddrK, Int.toNat_natCast, add_mk, Nat.mul_one, Nat.zero_add]
    refine ⟨_, h0, BoolK.mk (fun t => ?_) (fun t => ?_)⟩
    · simp at t
      exact ⟨by rw [ofS, all_false hlt (decide_eq_false (by omega))]; exact ⟨rfl, rfl, rfl⟩, hB⟩
    simp at t
    refine ⟨by omega, _, h0, BoolK.mk (fun t2 => ?_) (fun t2 => ?_)⟩
    · simp at t2
      exact ⟨by rw [ofS, all_false hlt (decide_eq_false (by omega))]; exact ⟨rfl, rfl, rfl⟩, hB⟩
    simp at t2
    rw [wrap_succ (by omega)]
    refine ⟨by omega, _, h0, by omega, hs.set (i := (d[k]).toNat) (g := fun v => decide ((v : Int) ∈ d.take (k + 1))) (by omega) (fun j => ?_) fun w' hs' hb' => ⟨⟨k + 1, rfl, by omega, by rw [all_take hlt, hall, decide_eq_true (by omega)]; rfl, hs', hbut.trans hb'⟩, by simp; omega⟩⟩
    have e1 : d.take (k + 1) = d.take k ++ [d[k]] := by rw [List.take_add_one, List.getElem?_eq_getElem hlt]; rfl
    rw [e1]
    by_cases hj : j = (d[k]).toNat
    · rw [if_pos hj]; simp only [decide_eq_true_eq]; rw [List.mem_append]; right; rw [List.mem_singleton]; omega
    · rw [if_neg hj, decide_eq_decide, List.mem_append, List.mem_singleton]
      exact ⟨fun hh => hh.elim id (fun e => by omega), .inl⟩
  · have : k = d.length := by simp at hge; omega
    subst this
    rw [List.take_length] at hs hall
    obtain ⟨r, hr, hrv⟩ := hs.row
    refine ⟨r, hr, (c66 w6 r _ hrv).mono ?_⟩
    rintro en w12 ⟨a', l', c', rfl, ho, hx12⟩
    refine ⟨_, _, _, rfl, ?_, hB.trans hx12⟩
    rw [ofS, hall]
    exact ⟨rfl, ho.mono hB.size, rngs_len _ _ (by omega)⟩

theorem c34 (w : World) (a b : Option Addr) (l c m g : Nat) (d e : List Int) (hd : Ints w a l d) (he : Ints w b m e) (hl : d.length ≤ 9223372036854775807) :
    Calls Try.prog 34 #[.slice a l c, .slice b m g] w fun en w' => ∃ p, en = .returned (.bool p) ∧ (p = decide (d = e) ∧ Ext w w') := by
  refine calls34 a l c b m g _ w ?_
  have e1 := hd.1
  have e2 := he.1
  refine BoolK.mk (fun t => ?_) (fun t => ?_)
  · simp at t
    exact ⟨(decide_eq_false (fun e => t (by rw [e1, e2, e]))).symm, Ext.refl w⟩
  simp at t
  refine ⟨fun i w' => ∃ k : Nat, i = k ∧ k ≤ d.length ∧ d.take k = e.take k ∧ Ext w w', fun i _ => d.length - i.toNat, ⟨⟨0, rfl, by omega, rfl, Ext.refl w⟩, trivial⟩, ?_⟩
  rintro w4 i ⟨k, rfl, hk, hv, hB⟩
  refine BoolK.mk (fun hlt => ?_) (fun hge => ?_)
  · have hlt : k < d.length := by simp at hlt; omega
    have hlt2 : k < e.length := by omega
    have hB6 := hB.trans (Ext.drew w4)
    obtain ⟨b1, o1, rfl, h0⟩ := intAt hd w4.drew hB6 hlt
    obtain ⟨b2, o2, rfl, g0⟩ := intAt he w4.drew hB6 hlt2
    refine ⟨by omega, ?_⟩
    simp only [AddrK, Int.toNat_natCast, add_mk, Nat.mul_one]
    refine ⟨_, h0, by omega, _, g0, BoolK.mk (fun t => ?_) (fun t => ?_)⟩
    · refine ⟨(decide_eq_false (fun ee => ?_)).symm, hB6⟩
      subst ee; simp at t
    · rw [wrap_succ (by omega)]
      refine ⟨⟨k + 1, rfl, by omega, (take_succ_eq hlt hlt2).2 ⟨hv, ?_⟩, hB6⟩, by simp; omega⟩
      simpa using t
  · have : k = d.length := by simp at hge; omega
    subst this
    rw [List.take_length, List.take_of_length_le (by omega)] at hv
    exact ⟨(decide_eq_true hv).symm, hB⟩

theorem c35 (w : World) (a : Option Addr) (l c : Nat) (d : Dm) (h : Dom w a l d) (hl : d.length ≤ 9223372036854775807) :
    Calls Try.prog 35 #[.slice a l c] w fun en w' => ∃ a' l' c', en = .returned (.slice a' l' c') ∧ OwnR w.heap.size 3 1 eI w' a' l' c' (if validB d then vals d else []) ∧ Ext w w' := by
  refine calls35 a l c _ w ?_
  refine (c32 w a l c d h hl).mono ?_
  rintro en w3 ⟨p, rfl, rfl, hx3⟩
  refine ⟨_, rfl, BoolK.mk (fun t => ?_) (fun t => ?_)⟩
  · simp at t; rw [t]; exact ⟨OwnR.nil _ _ _ _ _, hx3⟩
  simp at t; rw [t]
  have hv := (validB_iff d).1 t
  have hlen := hv.len
  rw [if_pos rfl]
  refine ⟨fun a l c i w' => ∃ k : Nat, i = k ∧ k ≤ d.length ∧ OwnR w.heap.size 3 1 eI w' a l c (vals (d.take k)) ∧ Ext w w', fun _ _ _ i _ => d.length - i.toNat, ⟨⟨0, rfl, by omega, OwnR.nil _ _ _ _ _, hx3⟩, trivial⟩, ?_⟩
  rintro w4 a5 l5 c5 i ⟨k, rfl, hk, ho, hB⟩
  obtain ⟨rfl, _⟩ := id h
  refine BoolK.mk (fun hlt => ?_) (fun hge => ?_)
  · have hlt : k < d.length := by simpa using hlt
    obtain ⟨b, o, rfl, h0, h1⟩ := domAt h w4 hB hlt
    have hr := hv.all d[k] (List.getElem_mem _)
    refine ⟨by omega, ?_⟩
    simp only [AddrK, Int.toNat_natCast, add_mk, Nat.add_zero]
    refine ⟨_, h0, _, h1, local2 fun b' w5 hb' hbk hx => ?_⟩
    have c0 := hbk.cell 0
    simp at c0
    simp only [add_mk, Int.toNat_zero, Int.toNat_one, Nat.mul_one, Nat.add_zero, Nat.zero_add]
    refine ⟨by omega, _, c0, ?_⟩
    -- the row may lie above the local, if it grows
    refine ⟨fun a l c i w' => ∃ j : Nat, i = d[k].1 + j ∧ i ≤ d[k].2 + 1 ∧ OwnR w.heap.size 3 1 eI w' a l c (vals (d.take k) ++ (valsR d[k]).take j) ∧ Blk w' b' #[.int .i64 d[k].1, .int .i64 d[k].2] 55 ∧ (Value.slice a l c).ownBlock ≠ some b' ∧ Ext w w', fun _ _ _ i _ => (d[k].2 + 1 - i).toNat,
      ⟨⟨0, by omega, by omega, by simpa using ho.ext hx, hbk, fun e => by have := (ho.lt b' e).2; omega, hB.trans hx⟩, trivial⟩, ?_⟩
    rintro w6 a6 l6 c6 x ⟨j, rfl, hj, ho6, hbk6, hne6, hB6⟩
    have c1 := hbk6.cell 1
    simp at c1
    refine ⟨by omega, _, c1, BoolK.mk (fun t2 => ?_) (fun t2 => ?_)⟩
    · simp at t2
      have hlen6 : (vals (d.take k) ++ (valsR d[k]).take j).length ≤ 1001 := by
        have h5 := (hv.take (k+1)).vals_len
        rw [vals_take hlt] at h5
        simp only [List.length_append, List.length_take] at h5 ⊢; omega
      rw [wrap_id (by omega) (by omega)]
      refine ho6.push (d[k].1 + (j : Int)) slt22 hB6.size eI_len eI_one (by omega) rfl fun a' c' w' ho' hg hown => ⟨⟨j + 1, by omega, by omega, ?_, ?_, ?_, Below.trans hB6 (ho6.below hB6.size hg)⟩, by dsimp only; omega⟩
      · rw [valsR_take, if_pos t2, ← List.append_assoc]
        exact ho'
      · exact (hg.block b' hbk6.lt (fun e => hne6 e.symm)).trans hbk6
      · intro e
        rcases hown with h1 | ⟨g, h1, h2⟩
        · exact hne6 (by rw [← h1]; exact e)
        · rw [h1] at e; simp at e; have := hbk6.lt; omega
    · simp at t2
      rw [wrap_succ (by omega)]
      refine ⟨⟨k + 1, rfl, by omega, ?_, hB6⟩, by simp; omega⟩
      rw [vals_take hlt]
      have e1 : (valsR d[k]).take j = valsR d[k] := List.take_of_length_le (by simp only [valsR, List.length_map, List.length_range]; omega)
      rw [e1] at ho6; exact ho6
  · have : k = d.length := by simp at hge; omega
    subst this
    rw [List.take_length] at ho
    exact ⟨ho, hB⟩

def hasS (d : Dm) (v : Int) : Bool := validB d && inD d v
theorem c37 (w : World) (a : Option Addr) (l c : Nat) (d : Dm) (v : Int) (h : Dom w a l d) (hl : d.length ≤ 9223372036854775807) :
    Calls Try.prog 37 #[.slice a l c, .int .i64 v] w fun en w' => ∃ p, en = .returned (.bool p) ∧ (p = hasS d v ∧ Ext w w') := by
  refine calls37 a l c v _ w ?_
  refine (c32 w a l c d h hl).mono ?_
  rintro en w3 ⟨p, rfl, rfl, hx3⟩
  refine ⟨_, rfl, BoolK.mk (fun t => ?_) (fun t => ?_)⟩
  · simp at t; exact ⟨by rw [hasS, t]; rfl, hx3⟩
  simp at t
  rw [hasS, t, Bool.true_and]
  have e1 := h.1
  refine ⟨fun i w' => ∃ k : Nat, i = k ∧ k ≤ d.length ∧ inD (d.take k) v = false ∧ Ext w w', fun i _ => d.length - i.toNat, ⟨⟨0, rfl, by omega, rfl, hx3⟩, trivial⟩, ?_⟩
  rintro w4 i ⟨k, rfl, hk, hv, hB⟩
  refine BoolK.mk (fun hlt => ?_) (fun hge => ?_)
  · have hlt : k < d.length := by simp at hlt; omega
    obtain ⟨b, o, rfl, h0, h1⟩ := domAt h w4 hB hlt
    refine ⟨by omega, ?_⟩
    simp only [AddrK, Int.toNat_natCast, add_mk, Nat.add_zero]
    refine ⟨_, h0, _, h1, local2 fun b' w5 hb' hbk hx => ?_⟩
    have c0 := hbk.cell 0
    have c1 := hbk.cell 1
    simp at c0 c1
    have hB5 := hB.trans hx
    have hno : inR v d[k] = false → (∃ k' : Nat, IntKind.wrap .i64 ((k : Int) + 1) = k' ∧ k' ≤ d.length ∧ inD (d.take k') v = false ∧ Ext w w5) ∧ d.length - (IntKind.wrap .i64 ((k : Int) + 1)).toNat < d.length - (k : Int).toNat := fun hh => by
      rw [wrap_succ (by omega)]
      exact ⟨⟨k + 1, rfl, by omega, by rw [inD_take hlt, hv, hh]; rfl, hB5⟩, by simp; omega⟩
    simp only [add_mk, Int.toNat_zero, Int.toNat_one, Nat.mul_one, Nat.zero_add]
    refine ⟨by omega, _, c0, BoolK.mk (fun t1 => ?_) (fun t1 => ?_)⟩
    · refine ⟨by omega, _, c1, BoolK.mk (fun t2 => ?_) (fun t2 => ?_)⟩
      · exact ⟨(any_true (p := inR v) hlt (by rw [inR, t1, t2]; rfl)).symm, hB5⟩
      · exact hno (by rw [inR, t2, Bool.and_false])
    · exact hno (by rw [inR, t1]; rfl)
  · have : k = d.length := by simp at hge; omega
    subst this
    rw [List.take_length] at hv
    exact ⟨hv.symm, hB⟩

theorem c38 (w : World) (a : Option Addr) (l c : Nat) (d : Dm) (v : Int) (h : Dom w a l d) (hs : Sm d) :
    Calls Try.prog 38 #[.slice a l c, .int .i64 v] w fun en w' => ∃ p, en = .returned (.bool p) ∧ (p = hasS d v ∧ Ext w w') := by
  refine calls38 a l c v _ w ?_
  have e1 := h.1
  have hl := hs.1
  refine ⟨fun i w' => ∃ k : Nat, i = k ∧ k ≤ d.length ∧ inD (d.take k) v = false ∧ Ext w w', fun i _ => d.length - i.toNat, ⟨⟨0, rfl, by omega, rfl, Ext.refl w⟩, trivial⟩, ?_⟩
  rintro w4 i ⟨k, rfl, hk, hv, hB⟩
  refine BoolK.mk (fun hlt => ?_) (fun hge => ?_)
  · have hlt : k < d.length := by simp at hlt; omega
    refine (c33 w4 a l c d (h.ext RPair.mono hB) hs.1 hs.2).mono ?_
    rintro en w8 ⟨p, rfl, rfl, hx8⟩
    have hB8 := hB.trans hx8
    refine ⟨_, rfl, BoolK.mk (fun t => ?_) (fun t => ?_)⟩
    · obtain ⟨b, o, rfl, h0, h1⟩ := domAt h w8 hB8 hlt
      have hno : inR v d[k] = false → (∃ k' : Nat, IntKind.wrap .i64 ((k : Int) + 1) = k' ∧ k' ≤ d.length ∧ inD (d.take k') v = false ∧ Ext w w8) ∧ d.length - (IntKind.wrap .i64 ((k : Int) + 1)).toNat < d.length - (k : Int).toNat := fun hh => by
        rw [wrap_succ (by omega)]
        exact ⟨⟨k + 1, rfl, by omega, by rw [inD_take hlt, hv, hh]; rfl, hB8⟩, by simp; omega⟩
      refine ⟨by omega, ?_⟩
      simp only [AddrK, Int.toNat_natCast, add_mk, Int.toNat_zero, Int.toNat_one, Nat.mul_one, Nat.add_zero]
      refine ⟨by omega, _, h0, BoolK.mk (fun t1 => ?_) (fun t1 => ?_)⟩
      · refine ⟨by omega, by omega, _, h1, BoolK.mk (fun t2 => ?_) (fun t2 => ?_)⟩
        · simp at t1 t2
          exact ⟨by rw [hasS, t, Bool.true_and]; exact (any_true (p := inR v) hlt (by rw [inR, decide_eq_true t1, decide_eq_true t2]; rfl)).symm, hB8⟩
        · simp at t2
          exact hno (by rw [inR, decide_eq_false (show ¬ v ≤ d[k].2 by omega), Bool.and_false])
      · simp at t1
        exact hno (by rw [inR, decide_eq_false (show ¬ d[k].1 ≤ v by omega)]; rfl)
    · exact ⟨by rw [hasS, t]; rfl, hB8⟩
  · have : k = d.length := by simp at hge; omega
    subst this
    rw [List.take_length] at hv
    exact ⟨by rw [hasS, hv, Bool.and_false], hB⟩

def sizeS (d : Dm) : Nat := (if validB d then vals d else []).length
theorem c39 (w : World) (a : Option Addr) (l c : Nat) (d : Dm) (h : Dom w a l d) (hl : d.length ≤ 9223372036854775807) :
    Calls Try.prog 39 #[.slice a l c] w fun en w' => ∃ n, en = .returned (.int .i64 n) ∧ (n = sizeS d ∧ Ext w w') := by
  refine calls39 a l c _ w ?_
  refine (c32 w a l c d h hl).mono ?_
  rintro en w3 ⟨p, rfl, rfl, hx3⟩
  refine ⟨_, rfl, BoolK.mk (fun t => ?_) (fun t => ?_)⟩
  · simp at t; exact ⟨by rw [sizeS, t]; rfl, hx3⟩
  simp at t
  have hvd := (validB_iff d).1 t
  rw [sizeS, t, if_pos rfl]
  have e1 := h.1
  refine ⟨fun n i w' => ∃ k : Nat, i = k ∧ k ≤ d.length ∧ n = (vals (d.take k)).length ∧ Ext w w', fun _ i _ => d.length - i.toNat, ⟨⟨0, rfl, by omega, rfl, hx3⟩, trivial⟩, ?_⟩
  rintro w4 _ _ ⟨k, rfl, hk, rfl, hB⟩
  refine BoolK.mk (fun hlt => ?_) (fun hge => ?_)
  · have hlt : k < d.length := by simp at hlt; omega
    obtain ⟨b, o, rfl, h0, h1⟩ := domAt h w4 hB hlt
    refine ⟨by omega, ?_⟩
    simp only [AddrK, Int.toNat_natCast, add_mk, Nat.add_zero]
    refine ⟨_, h0, _, h1, local2 fun b' w5 hb' hbk hx => ?_⟩
    have c0 := hbk.cell 0
    have c1 := hbk.cell 1
    simp at c0 c1
    simp only [add_mk, Int.toNat_zero, Int.toNat_one, Nat.mul_one, Nat.zero_add]
    have hr := hvd.all d[k] (List.getElem_mem _)
    have hvl := (hvd.take (k+1)).vals_len
    rw [vals_take hlt, List.length_append] at hvl
    have hvr : (valsR d[k]).length = (d[k].2 + 1 - d[k].1).toNat := by simp [valsR]
    refine ⟨by omega, _, c1, by omega, _, c0, ?_⟩
    rw [wrap_id (x := d[k].2 - d[k].1) (by omega) (by omega), wrap_id (x := d[k].2 - d[k].1 + 1) (by omega) (by omega), wrap_succ (by omega), wrap_id (by omega) (by omega)]
    exact ⟨⟨k + 1, rfl, by omega, by rw [vals_take hlt, List.length_append]; omega, hB.trans hx⟩, by simp; omega⟩
  · have : k = d.length := by simp at hge; omega
    subst this
    rw [List.take_length]
    exact ⟨rfl, hB⟩
theorem c40 (w : World) (a : Option Addr) (l c : Nat) (d : Dm) (h : Dom w a l d) (hs : Sm d) :
    Calls Try.prog 40 #[.slice a l c] w fun en w' => ∃ n, en = .returned (.int .i64 n) ∧ (n = sizeS d ∧ Ext w w') := by
  refine calls40 a l c _ w ?_
  refine (c36 w a l c d h hs.1 hs.2).mono ?_
  rintro en w3 ⟨a', l', c', rfl, ho, hx⟩
  exact ⟨_, _, _, rfl, by rw [ho.1]; rfl, hx⟩

/-- what two domains have by a rule -/
def bothS (rule : Bool → Bool → Bool) (a b : Dm) : Option Dm := if validB a && validB b then some (rngs (fun v => rule (inD a v) (inD b v)) 1001) else none

theorem c60 (w : World) (a1 : Option Addr) (l1 c1 : Nat) (a2 : Option Addr) (l2 c2 : Nat) (g : FuncId) (rule : Bool → Bool → Bool) (d e : Dm) (hd : Dom w a1 l1 d) (he : Dom w a2 l2 e) (hl : d.length ≤ 9223372036854775807) (hl2 : e.length ≤ 9223372036854775807)
    (hg : Enters Try.prog g) (hr : ∀ w x y, Calls Try.prog g #[.bool x, .bool y] w fun en w' => ∃ p, en = .returned (.bool p) ∧ (p = rule x y ∧ Ext w w')) :
    Calls Try.prog 60 #[.slice a1 l1 c1, .slice a2 l2 c2, .func (.func g) #[] #[]] w fun en w' => ∃ a' l' c' n, en = .returned (.tuple #[.slice a' l' c', .int .i64 n]) ∧ (DomRes w.heap.size w' (bothS rule d e) a' l' c' n ∧ Ext w w') := by
  refine calls60 _ _ _ _ _ _ _ _ w ?_
  refine (c32 w a1 l1 c1 d hd hl).mono ?_
  rintro en w5 ⟨p, rfl, rfl, hx5⟩
  refine ⟨_, rfl, BoolK.mk (fun t => ?_) (fun t => ?_)⟩
  · simp at t; exact ⟨by rw [bothS, t]; exact ⟨rfl, rfl, rfl⟩, hx5⟩
  simp at t
  refine (c32 w5 a2 l2 c2 e (he.ext RPair.mono hx5) hl2).mono ?_
  rintro en w8 ⟨p, rfl, rfl, hx8⟩
  have hB8 := hx5.trans hx8
  refine ⟨_, rfl, BoolK.mk (fun t2 => ?_) (fun t2 => ?_)⟩
  · simp at t2; exact ⟨by rw [bothS, t2, Bool.and_false]; exact ⟨rfl, rfl, rfl⟩, hB8⟩
  simp at t2
  have vd := (validB_iff d).1 t
  have ve := (validB_iff e).1 t2
  refine (c81 w8 a1 l1 c1 d (hd.ext RPair.mono hB8) vd).mono ?_
  rintro en w11 ⟨o, rfl, b1, rfl, hb1, hs1, hx11⟩
  refine ⟨_, rfl, ?_⟩
  refine (c81 w11 a2 l2 c2 e (he.ext RPair.mono (hB8.trans hx11)) ve).mono ?_
  rintro en w14 ⟨o, rfl, b2, rfl, hb2, hs2, hx14⟩
  refine ⟨_, rfl, ?_⟩
  have hB14 := (hB8.trans hx11).trans hx14
  have hlt1 := hs1.lt
  have hs1' := hs1.ext hx14
  have hsz := hB8.size
  have hsz2 := hx14.size
  refine ⟨fun i w' => ∃ k : Nat, i = k ∧ k ≤ 1001 ∧ SetAt w' b1 (fun v => if v < k then rule (inD d v) (inD e v) else inD d v) ∧ Grow b1 w14 w', fun i _ => 1001 - i.toNat, ⟨⟨0, rfl, by omega, hs1'.congr fun i _ => by simp, Grow.refl _ _⟩, trivial⟩, ?_⟩
  intro w18 x19 hI
  obtain ⟨k, hxk, hk, hs, hgr⟩ := hI
  subst hxk
  have hB18 : Ext w w18 := hgr.toExt hB14 (by omega)
  rw [BoolK_iff]
  constructor
  · intro hlt
    have hlt : k < 1001 := by simp at hlt; omega
    refine DrewK.mk fun w20 hx20 => ?_
    have hs20 := hs.ext hx20
    have hg20 := hgr.ext hx20
    have h2 := hg20.set hs2 (by omega)
    have hc1 := hs20.cell hlt
    have hc2 := h2.cell hlt
    rw [if_neg (Nat.lt_irrefl k)] at hc1
    show (0 ≤ (k : Int) ∧ (k : Int) < (1001 : Nat)) ∧ _
    refine ⟨by omega, ?_⟩
    simp only [AddrK, Int.toNat_natCast, add_mk, Nat.mul_one, Nat.zero_add]
    refine ⟨_, hc1, by omega, _, hc2, hg, (hr w20 _ _).mono ?_⟩
    rintro en w27 ⟨p, rfl, rfl, hx27⟩
    refine ⟨_, rfl, hx27, by omega, (hs20.ext hx27).set (g := fun v => if v < k + 1 then rule (inD d v) (inD e v) else inD d v) hlt (fun j => ?_) fun w29 hs29 hbut => ?_⟩
    · by_cases hj : j = k
      · subst hj; rw [if_pos rfl, if_pos (by omega)]
      · rw [if_neg hj]
        by_cases hjk : j < k
        · rw [if_pos hjk, if_pos (by omega)]
        · rw [if_neg hjk, if_neg (by omega)]
    · rw [wrap_succ (by omega)]
      exact ⟨⟨k + 1, rfl, by omega, hs29, (hg20.ext hx27).but hbut⟩, by simp; omega⟩
  · intro hge
    have : k = 1001 := by simp at hge; omega
    subst this
    refine (c65 w18 b1 _ hs).mono ?_
    rintro en w31 ⟨a', l', c', rfl, ho, hx31⟩
    refine ⟨_, _, _, rfl, ?_, hB18.trans hx31⟩
    rw [bothS, t, t2]
    have e1 : rngs (fun v => if v < 1001 then rule (inD d v) (inD e v) else inD d v) 1001 = rngs (fun v => rule (inD d v) (inD e v)) 1001 := rngs_congr fun i hi => by rw [if_pos hi]
    rw [e1] at ho
    exact ⟨rfl, ho.mono hB18.size, rngs_len _ _ (by omega)⟩
end Go.Proofs.Ytggfnakhmjkoeaa

namespace Go.Proofs.Ytggfnakhmjkoeaa
open Go Go.V Go.Proofs
open Go.RowKit (Below)
/-! manystrand/manystrandlaw06.DomainSets -/
def N6 (a1 : Option Addr) (l1 : Nat) (c1 : Nat) (a2 : Option Addr) (l2 : Nat) (c2 : Nat) (a3 : Option Addr) (l3 : Nat) (c3 : Nat) (x4 : Int) (K : Bool → World → Prop) (w : World) : Prop :=
  ∃ (J5 : Bool → World → Prop),
  (∀ (w6 : World) (p7 : Bool), J5 p7 w6 →
    BoolK p7
    (Calls Try.prog 12 #[] w6 fun e10 w9 =>
      ∃ (p8 : Bool), e10 = .returned (.bool p8) ∧
      (K p8 w9))
    (Calls Try.prog 23 #[(.slice a1 l1 c1), (.slice a2 l2 c2)] w6 fun e14 w13 =>
      ∃ (a11 : Option Addr), ∃ (l11 : Nat), ∃ (c11 : Nat), ∃ (x12 : Int), e14 = .returned (.tuple #[(.slice a11 l11 c11), (.int .i64 x12)]) ∧
      (Calls Try.prog 25 #[(.slice a1 l1 c1), (.slice a2 l2 c2)] w13 fun e18 w17 =>
        ∃ (a15 : Option Addr), ∃ (l15 : Nat), ∃ (c15 : Nat), ∃ (x16 : Int), e18 = .returned (.tuple #[(.slice a15 l15 c15), (.int .i64 x16)]) ∧
        (BoolK ((x12 : Int) != x16)
          (K false w17)
          (Calls Try.prog 26 #[(.slice a11 l11 c11), (.slice a15 l15 c15)] w17 fun e21 w20 =>
            ∃ (p19 : Bool), e21 = .returned (.bool p19) ∧
            (BoolK (!p19)
              (K false w20)
              (Calls Try.prog 27 #[(.slice a1 l1 c1), (.slice a2 l2 c2)] w20 fun e25 w24 =>
                ∃ (a22 : Option Addr), ∃ (l22 : Nat), ∃ (c22 : Nat), ∃ (x23 : Int), e25 = .returned (.tuple #[(.slice a22 l22 c22), (.int .i64 x23)]) ∧
                (Calls Try.prog 28 #[(.slice a1 l1 c1), (.slice a2 l2 c2)] w24 fun e29 w28 =>
                  ∃ (a26 : Option Addr), ∃ (l26 : Nat), ∃ (c26 : Nat), ∃ (x27 : Int), e29 = .returned (.tuple #[(.slice a26 l26 c26), (.int .i64 x27)]) ∧
                  (BoolK ((x23 : Int) != x27)
                    (K false w28)
                    (Calls Try.prog 26 #[(.slice a22 l22 c22), (.slice a26 l26 c26)] w28 fun e32 w31 =>
                      ∃ (p30 : Bool), e32 = .returned (.bool p30) ∧
                      (BoolK (!p30)
                        (K false w31)
                        (Calls Try.prog 24 #[(.slice a1 l1 c1), (.slice a2 l2 c2)] w31 fun e36 w35 =>
                          ∃ (a33 : Option Addr), ∃ (l33 : Nat), ∃ (c33 : Nat), ∃ (x34 : Int), e36 = .returned (.tuple #[(.slice a33 l33 c33), (.int .i64 x34)]) ∧
                          (Calls Try.prog 29 #[(.slice a1 l1 c1), (.slice a2 l2 c2)] w35 fun e40 w39 =>
                            ∃ (a37 : Option Addr), ∃ (l37 : Nat), ∃ (c37 : Nat), ∃ (x38 : Int), e40 = .returned (.tuple #[(.slice a37 l37 c37), (.int .i64 x38)]) ∧
                            (BoolK ((x34 : Int) != x38)
                              (K false w39)
                              (Calls Try.prog 26 #[(.slice a33 l33 c33), (.slice a37 l37 c37)] w39 fun e43 w42 =>
                                ∃ (p41 : Bool), e43 = .returned (.bool p41) ∧
                                (BoolK (!p41)
                                  (K false w42)
                                  (Calls Try.prog 30 #[(.slice a3 l3 c3)] w42 fun e47 w46 =>
                                    ∃ (a44 : Option Addr), ∃ (l44 : Nat), ∃ (c44 : Nat), ∃ (x45 : Int), e47 = .returned (.tuple #[(.slice a44 l44 c44), (.int .i64 x45)]) ∧
                                    (Calls Try.prog 31 #[(.slice a3 l3 c3)] w46 fun e51 w50 =>
                                      ∃ (a48 : Option Addr), ∃ (l48 : Nat), ∃ (c48 : Nat), ∃ (x49 : Int), e51 = .returned (.tuple #[(.slice a48 l48 c48), (.int .i64 x49)]) ∧
                                      (BoolK ((x45 : Int) == x49)
                                        (Calls Try.prog 26 #[(.slice a44 l44 c44), (.slice a48 l48 c48)] w50 fun e54 w53 =>
                                          ∃ (p52 : Bool), e54 = .returned (.bool p52) ∧
                                          (BoolK p52
                                            (Calls Try.prog 32 #[(.slice a1 l1 c1)] w53 fun e57 w56 =>
                                              ∃ (p55 : Bool), e57 = .returned (.bool p55) ∧
                                              (Calls Try.prog 33 #[(.slice a1 l1 c1)] w56 fun e60 w59 =>
                                                ∃ (p58 : Bool), e60 = .returned (.bool p58) ∧
                                                (BoolK (p55 == p58)
                                                  (Calls Try.prog 35 #[(.slice a1 l1 c1)] w59 fun e63 w62 =>
                                                    ∃ (a61 : Option Addr), ∃ (l61 : Nat), ∃ (c61 : Nat), e63 = .returned (.slice a61 l61 c61) ∧
                                                    (Calls Try.prog 36 #[(.slice a1 l1 c1)] w62 fun e66 w65 =>
                                                      ∃ (a64 : Option Addr), ∃ (l64 : Nat), ∃ (c64 : Nat), e66 = .returned (.slice a64 l64 c64) ∧
                                                      (Calls Try.prog 34 #[(.slice a61 l61 c61), (.slice a64 l64 c64)] w65 fun e69 w68 =>
                                                        ∃ (p67 : Bool), e69 = .returned (.bool p67) ∧
                                                        (BoolK p67
                                                          (Calls Try.prog 37 #[(.slice a1 l1 c1), (.int .i64 x4)] w68 fun e72 w71 =>
                                                            ∃ (p70 : Bool), e72 = .returned (.bool p70) ∧
                                                            (Calls Try.prog 38 #[(.slice a1 l1 c1), (.int .i64 x4)] w71 fun e75 w74 =>
                                                              ∃ (p73 : Bool), e75 = .returned (.bool p73) ∧
                                                              (BoolK (p70 == p73)
                                                              (Calls Try.prog 39 #[(.slice a1 l1 c1)] w74 fun e78 w77 =>
                                                              ∃ (x76 : Int), e78 = .returned (.int .i64 x76) ∧
                                                              (Calls Try.prog 40 #[(.slice a1 l1 c1)] w77 fun e81 w80 =>
                                                              ∃ (x79 : Int), e81 = .returned (.int .i64 x79) ∧
                                                              (BoolK ((x76 : Int) == x79)
                                                              (Calls Try.prog 12 #[] w80 fun e84 w83 =>
                                                              ∃ (p82 : Bool), e84 = .returned (.bool p82) ∧
                                                              (K p82 w83))
                                                              (K false w80))))
                                                              (K false w74))))
                                                          (K false w68)))))
                                                  (K false w59))))
                                            (K false w53)))
                                        (K false w50)))))))))))))))))))) ∧
  (BoolK (decide (((l1 : Nat) : Int) > 600))
    (J5 true w)
    (BoolK (decide (((l2 : Nat) : Int) > 600))
      (J5 true w)
      (J5 (decide (((l3 : Nat) : Int) > 3000)) w)))
def ann6 : Ann := (.two .nil (.two (.cut [(25, (.one .bool))] [0, 1, 2, 3] .nil (.two (.two .nil .nil) .nil)) (.two .nil (.two .nil (.two (.two .nil (.two (.two .nil .nil) .nil)) (.two .nil (.two .nil (.two (.two .nil (.two (.two .nil .nil) .nil)) (.two .nil (.two .nil (.two (.two .nil (.two (.two .nil .nil) .nil)) (.two .nil (.two .nil (.two .nil .nil))))))))))))))
noncomputable def code6 : Code := match Try.f6.body with | some c => c | none => .skip
theorem wp6 (a1 : Option Addr) (l1 : Nat) (c1 : Nat) (a2 : Option Addr) (l2 : Nat) (c2 : Nat) (a3 : Option Addr) (l3 : Nat) (c3 : Nat) (x4 : Int) (K : Bool → World → Prop) (w : World) : WP Try.prog tab code6 ann6 (fnQ tab Try.f6.results.toList [(.one .bool)] K) (argE 0 [(.slice a1 l1 c1), (.slice a2 l2 c2), (.slice a3 l3 c3), (.int .i64 x4)]) w = N6 a1 l1 c1 a2 l2 c2 a3 l3 c3 x4 K w := by kernel_rfl
theorem calls6 (a1 : Option Addr) (l1 : Nat) (c1 : Nat) (a2 : Option Addr) (l2 : Nat) (c2 : Nat) (a3 : Option Addr) (l3 : Nat) (c3 : Nat) (x4 : Int) (K : Bool → World → Prop) (w : World) (h : N6 a1 l1 c1 a2 l2 c2 a3 l3 c3 x4 K w) : Calls Try.prog 6 #[(.slice a1 l1 c1), (.slice a2 l2 c2), (.slice a3 l3 c3), (.int .i64 x4)] w fun en w' => ∃ (p85 : Bool), en = .returned (.bool p85) ∧ K p85 w' :=
  have e : (fun en w' => ExShs [(.one .bool)] fun vs => en = .returned (tupled vs) ∧ ap [(.one .bool)] K vs fun p => p w') = (fun (en : Ending) (w' : World) => ∃ (p85 : Bool), en = .returned (.bool p85) ∧ K p85 w') := by kernel_rfl
  e ▸ fn_sound tabOk mixed Try.func6 (by kernel_rfl : Try.f6.body = some code6) ann6 [(.slice a1 l1 c1), (.slice a2 l2 c2), (.slice a3 l3 c3), (.int .i64 x4)] [(.one .bool)] K w (by kernel_rfl) ((wp6 a1 l1 c1 a2 l2 c2 a3 l3 c3 x4 K w).symm ▸ h)
end Go.Proofs.Ytggfnakhmjkoeaa

namespace Go.Proofs.Ytggfnakhmjkoeaa
open Go Go.V Go.Proofs
open Go.RowKit (Below)

def rMeet (x y : Bool) : Bool := x && y
def rMinus (x y : Bool) : Bool := x && !y
def rJoin (x y : Bool) : Bool := x || y
theorem c61 (w : World) (x y : Bool) : Calls Try.prog 61 #[.bool x, .bool y] w fun en w' => ∃ p, en = .returned (.bool p) ∧ (p = rMeet x y ∧ Ext w w') := by
  refine calls61 _ _ _ w ?_
  cases x <;> exact ⟨rfl, Ext.refl w⟩
theorem c62 (w : World) (x y : Bool) : Calls Try.prog 62 #[.bool x, .bool y] w fun en w' => ∃ p, en = .returned (.bool p) ∧ (p = rMinus x y ∧ Ext w w') := by
  refine calls62 _ _ _ w ?_
  cases x <;> exact ⟨rfl, Ext.refl w⟩
theorem c64 (w : World) (x y : Bool) : Calls Try.prog 64 #[.bool x, .bool y] w fun en w' => ∃ p, en = .returned (.bool p) ∧ (p = rJoin x y ∧ Ext w w') := by
  refine calls64 _ _ _ w ?_
  cases x <;> exact ⟨rfl, Ext.refl w⟩

section
variable (w : World) (a1 : Option Addr) (l1 c1 : Nat) (a2 : Option Addr) (l2 c2 : Nat) (d e : Dm) (hd : Dom w a1 l1 d) (he : Dom w a2 l2 e)
include hd he
theorem c23 (hl : d.length ≤ 9223372036854775807) (hl2 : e.length ≤ 9223372036854775807) :
    Calls Try.prog 23 #[.slice a1 l1 c1, .slice a2 l2 c2] w fun en w' => ∃ a' l' c' n, en = .returned (.tuple #[.slice a' l' c', .int .i64 n]) ∧ (DomRes w.heap.size w' (bothS rMeet d e) a' l' c' n ∧ Ext w w') :=
  calls23 _ _ _ _ _ _ _ w (c60 w a1 l1 c1 a2 l2 c2 61 rMeet d e hd he hl hl2 Try.call61 c61)
theorem c24 (hl : d.length ≤ 9223372036854775807) (hl2 : e.length ≤ 9223372036854775807) :
    Calls Try.prog 24 #[.slice a1 l1 c1, .slice a2 l2 c2] w fun en w' => ∃ a' l' c' n, en = .returned (.tuple #[.slice a' l' c', .int .i64 n]) ∧ (DomRes w.heap.size w' (bothS rMinus d e) a' l' c' n ∧ Ext w w') :=
  calls24 _ _ _ _ _ _ _ w (c60 w a1 l1 c1 a2 l2 c2 62 rMinus d e hd he hl hl2 Try.call62 c62)
theorem c27 (hl : d.length ≤ 9223372036854775807) (hl2 : e.length ≤ 9223372036854775807) :
    Calls Try.prog 27 #[.slice a1 l1 c1, .slice a2 l2 c2] w fun en w' => ∃ a' l' c' n, en = .returned (.tuple #[.slice a' l' c', .int .i64 n]) ∧ (DomRes w.heap.size w' (bothS rJoin d e) a' l' c' n ∧ Ext w w') :=
  calls27 _ _ _ _ _ _ _ w (c60 w a1 l1 c1 a2 l2 c2 64 rJoin d e hd he hl hl2 Try.call64 c64)

def r3 (p3 p4 p5 x y : Bool) : Bool := (x && y && p3) || (x && !y && p4) || (!x && y && p5)
theorem c63 (hs1 : Sm d) (hs2 : Sm e) (p3 p4 p5 : Bool) :
    Calls Try.prog 63 #[.slice a1 l1 c1, .slice a2 l2 c2, .bool p3, .bool p4, .bool p5] w fun en w' => ∃ a' l' c' n, en = .returned (.tuple #[.slice a' l' c', .int .i64 n]) ∧ (DomRes w.heap.size w' (bothS (r3 p3 p4 p5) d e) a' l' c' n ∧ Ext w w') := by
  refine calls63 _ _ _ _ _ _ _ _ _ _ w ?_
  refine (c33 w a1 l1 c1 d hd hs1.1 hs1.2).mono ?_
  rintro en w5 ⟨p, rfl, rfl, hx5⟩
  refine ⟨_, rfl, BoolK.mk (fun t => ?_) (fun t => ?_)⟩
  · simp at t; exact ⟨by rw [bothS, t]; exact ⟨rfl, rfl, rfl⟩, hx5⟩
  simp at t
  refine (c33 w5 a2 l2 c2 e (he.ext RPair.mono hx5) hs2.1 hs2.2).mono ?_
  rintro en w8 ⟨p, rfl, rfl, hx8⟩
  have hB8 := hx5.trans hx8
  refine ⟨_, rfl, BoolK.mk (fun t2 => ?_) (fun t2 => ?_)⟩
  · simp at t2; exact ⟨by rw [bothS, t2, Bool.and_false]; exact ⟨rfl, rfl, rfl⟩, hB8⟩
  simp at t2
  have vd := (validB_iff d).1 t
  have ve := (validB_iff e).1 t2
  refine (c83 w8 a1 l1 c1 d (hd.ext RPair.mono hB8) vd).mono ?_
  rintro en w13 ⟨rx, rfl, hrx, hx13⟩
  refine ⟨_, rfl, ?_⟩
  refine (c83 w13 a2 l2 c2 e (he.ext RPair.mono (hB8.trans hx13)) ve).mono ?_
  rintro en w16 ⟨ry, rfl, hry, hx16⟩
  refine ⟨_, rfl, ?_⟩
  have hB16 := (hB8.trans hx13).trans hx16
  refine zero71.alloc fun b18 w19 h18 s18 x19 => zero71.alloc fun b20 w21 h20 s20 x21 => ?_
  have q18 := s18.lt
  have z21 := x21.size
  have zB := hB16.size
  have z19 := x19.size
  refine hrx.store (s18.ext x21) fun w22 t18 bt18 => ?_
  refine hry.store (s20.but bt18 (by omega)) fun w23 t20 bt20 => ?_
  have t18' := t18.but bt20 (by omega)
  have hB23 : Ext w w23 := bt20.below (bt18.below ((hB16.trans x19).trans x21) (by omega)) (by omega)
  refine zero71.alloc fun b24 w25 h24 s24 x25 => ?_
  have u18 := t18'.ext x25
  have u20 := t20.ext x25
  have k18 := t18'.lt
  have k20 := t20.lt
  have hB25 := hB23.trans x25
  have hz23 := hB23.size
  refine ⟨fun i w' => ∃ k : Nat, i = k ∧ k ≤ 1001 ∧ SetAt w' b24 (fun v => if v < k then r3 p3 p4 p5 (inD d v) (inD e v) else false) ∧ But b24 w25 w', fun i _ => 1001 - i.toNat, ⟨⟨0, rfl, by omega, s24.congr fun i _ => by simp, ⟨rfl, rfl, rfl, rfl, fun _ _ => rfl⟩⟩, trivial⟩, ?_⟩
  intro w28 x29 hI
  obtain ⟨k, hxk, hk, hs, hbut⟩ := hI
  subst hxk
  rw [BoolK_iff]
  constructor
  · intro hlt
    have hlt : k < 1001 := by simp at hlt; omega
    have hx := (u18.but hbut (by omega)).cell hlt
    have hy := (u20.but hbut (by omega)).cell hlt
    have hidx : 0 ≤ (k : Int) ∧ (k : Int) < (1001 : Nat) := by omega
    have fin : ∀ p, p = r3 p3 p4 p5 (inD d k) (inD e k) → SetK w28 ⟨b24, k, none⟩ (.bool p) fun w' =>
        (∃ k' : Nat, IntKind.wrap .i64 ((k : Int) + 1) = k' ∧ k' ≤ 1001 ∧ SetAt w' b24 (fun v => if v < k' then r3 p3 p4 p5 (inD d v) (inD e v) else false) ∧ But b24 w25 w') ∧ 1001 - (IntKind.wrap .i64 ((k : Int) + 1)).toNat < 1001 - (k : Int).toNat := fun p hp => by
      rw [wrap_succ (by omega)]
      refine hs.set hlt (fun j => ?_) fun w' hs' hb' => ⟨⟨k + 1, rfl, by omega, hs', hbut.trans hb'⟩, by simp; omega⟩
      by_cases hj : j = k
      · subst hj; rw [if_pos rfl, if_pos (by omega), hp]
      · rw [if_neg hj]
        by_cases hjk : j < k
        · rw [if_pos hjk, if_pos (by omega)]
        · rw [if_neg hjk, if_neg (by omega)]
    simp only [Int.toNat_natCast, add_mk, Nat.mul_one, Nat.zero_add]
    generalize hX : inD d k = X at hx fin
    generalize hY : inD e k = Y at hy fin
    simp only [hidx, hx, hy, true_and, Option.some.injEq, Value.bool.injEq, exists_eq_left', and_self]
    cases X <;> cases Y <;> cases p3 <;> cases p4 <;> simp only [BoolK_true, BoolK_false, Bool.not_true, Bool.not_false] <;> exact fin _ (by simp [r3])
  · intro hge
    have : k = 1001 := by simp at hge; omega
    subst this
    obtain ⟨r, hr, hrv⟩ := hs.row
    have hB28 : Ext w w28 := hbut.below hB25 (by omega)
    refine ⟨r, hr, (c66 w28 r _ hrv).mono ?_⟩
    rintro en w31 ⟨a', l', c', rfl, ho, hx31⟩
    refine ⟨_, _, _, rfl, ?_, hB28.trans hx31⟩
    rw [bothS, t, t2]
    have e1 : rngs (fun v => if v < 1001 then r3 p3 p4 p5 (inD d v) (inD e v) else false) 1001 = rngs (fun v => r3 p3 p4 p5 (inD d v) (inD e v)) 1001 := rngs_congr fun i hi => by rw [if_pos hi]
    rw [e1] at ho
    exact ⟨rfl, ho.mono hB28.size, rngs_len _ _ (by omega)⟩
end
theorem r3_meet : r3 true false false = rMeet := by funext x y; cases x <;> cases y <;> rfl
theorem r3_join : r3 true true true = rJoin := by funext x y; cases x <;> cases y <;> rfl
theorem r3_minus : r3 false true false = rMinus := by funext x y; cases x <;> cases y <;> rfl
section
variable (w : World) (a1 : Option Addr) (l1 c1 : Nat) (a2 : Option Addr) (l2 c2 : Nat) (d e : Dm) (hd : Dom w a1 l1 d) (he : Dom w a2 l2 e)
include hd he
theorem c25 (hs1 : Sm d) (hs2 : Sm e) :
    Calls Try.prog 25 #[.slice a1 l1 c1, .slice a2 l2 c2] w fun en w' => ∃ a' l' c' n, en = .returned (.tuple #[.slice a' l' c', .int .i64 n]) ∧ (DomRes w.heap.size w' (bothS rMeet d e) a' l' c' n ∧ Ext w w') :=
  calls25 _ _ _ _ _ _ _ w (by rw [← r3_meet]; exact c63 w a1 l1 c1 a2 l2 c2 d e hd he hs1 hs2 true false false)
theorem c28 (hs1 : Sm d) (hs2 : Sm e) :
    Calls Try.prog 28 #[.slice a1 l1 c1, .slice a2 l2 c2] w fun en w' => ∃ a' l' c' n, en = .returned (.tuple #[.slice a' l' c', .int .i64 n]) ∧ (DomRes w.heap.size w' (bothS rJoin d e) a' l' c' n ∧ Ext w w') :=
  calls28 _ _ _ _ _ _ _ w (by rw [← r3_join]; exact c63 w a1 l1 c1 a2 l2 c2 d e hd he hs1 hs2 true true true)
theorem c29 (hs1 : Sm d) (hs2 : Sm e) :
    Calls Try.prog 29 #[.slice a1 l1 c1, .slice a2 l2 c2] w fun en w' => ∃ a' l' c' n, en = .returned (.tuple #[.slice a' l' c', .int .i64 n]) ∧ (DomRes w.heap.size w' (bothS rMinus d e) a' l' c' n ∧ Ext w w') :=
  calls29 _ _ _ _ _ _ _ w (by rw [← r3_minus]; exact c63 w a1 l1 c1 a2 l2 c2 d e hd he hs1 hs2 false true false)
end

/-- two answers that are the same are told the same by SameDom -/
theorem same_res {base base' : Nat} {w w2 : World} {r : Option Dm} {a : Option Addr} {l c : Nat} {n : Int} {a' : Option Addr} {l' c' : Nat} {n' : Int} (h : DomRes base w r a l c n) (k : DomRes base' w2 r a' l' c' n') (hx : Ext w w2) (K : Ending → World → Prop)
    (hK : ∀ w3, Ext w2 w3 → K (.returned (.bool true)) w3) : n = n' ∧ Calls Try.prog 26 #[.slice a l c, .slice a' l' c'] w2 K := by
  obtain ⟨h1, h2, h3⟩ := h.dom
  obtain ⟨k1, k2, _⟩ := k.dom
  refine ⟨h2.trans k2.symm, ?_⟩
  refine (c26 w2 a a' l c l' c' _ _ (h1.ext RPair.mono hx) k1 (by omega)).mono ?_
  rintro en w3 ⟨p, rfl, rfl, hx3⟩
  rw [decide_eq_true rfl]; exact hK w3 hx3

theorem c6 (w : World) (a1 : Option Addr) (l1 c1 : Nat) (a2 : Option Addr) (l2 c2 : Nat) (a3 : Option Addr) (l3 c3 : Nat) (v : Int) (d e : Dm) (ns : List Int)
    (hd : Go.V.Rows 2 RPair64 w a1 l1 d) (he : Go.V.Rows 2 RPair64 w a2 l2 e) (hn : Go.V.Rows 1 RInt64 w a3 l3 ns) :
    Calls Try.prog 6 #[.slice a1 l1 c1, .slice a2 l2 c2, .slice a3 l3 c3, .int .i64 v] w fun en w' => en = .returned (.bool true) ∧ Ext w w' := by
  have e1 := hd.1
  have e2 := he.1
  have e3 := hn.1
  have hd' : Dom w a1 l1 d := ⟨hd.1, hd.2.imp id fun ⟨b, o, ha, hx⟩ => ⟨b, o, ha, fun i x hi => (hx i x hi).1⟩⟩
  have he' : Dom w a2 l2 e := ⟨he.1, he.2.imp id fun ⟨b, o, ha, hx⟩ => ⟨b, o, ha, fun i x hi => (hx i x hi).1⟩⟩
  have hn' : Ints w a3 l3 ns := ⟨hn.1, hn.2.imp id fun ⟨b, o, ha, hx⟩ => ⟨b, o, ha, fun i x hi => (hx i x hi).1⟩⟩
  have sm : ∀ {a : Option Addr} {l : Nat} {x : Dm}, Go.V.Rows 2 RPair64 w a l x → x.length ≤ 600 → Sm x := fun {a l x} h hl => ⟨by omega, fun p hp => by
    obtain ⟨i, hi, rfl⟩ := List.mem_iff_getElem.1 hp
    obtain ⟨_, _, _, _, _, h2⟩ := h.get hi
    exact ⟨h2.2, h2.1⟩⟩
  have key : ∀ (K : Bool → World → Prop), (∀ w', Ext w w' → K true w') → N6 a1 l1 c1 a2 l2 c2 a3 l3 c3 v K w := fun K hK => by
    refine ⟨fun q w6 => w6 = w ∧ q = decide (d.length > 600 ∨ e.length > 600 ∨ ns.length > 3000), ?_, ?_⟩
    · rintro w6 q ⟨rfl, rfl⟩
      refine BoolK.mk (fun _ => ?_) (fun t => ?_)
      · refine (c12 w6).mono ?_
        rintro en w9 ⟨p, rfl, rfl, hx⟩
        exact ⟨_, rfl, hK _ hx⟩
      have t' := of_decide_eq_false t
      have sd := sm hd (by omega)
      have se := sm he (by omega)
      -- Meet
      refine (c23 w6 a1 l1 c1 a2 l2 c2 d e hd' he' (by omega) (by omega)).mono ?_
      rintro en w13 ⟨_, _, _, _, rfl, h1, x1⟩
      refine ⟨_, _, _, _, rfl, ?_⟩
      refine (c25 w13 a1 l1 c1 a2 l2 c2 d e (hd'.ext RPair.mono x1) (he'.ext RPair.mono x1) sd se).mono ?_
      rintro en w17 ⟨_, _, _, _, rfl, h2, x2⟩
      refine ⟨_, _, _, _, rfl, ?_⟩
      have hne : (_ : Int) = _ := (same_res h1 h2 x2 (fun _ _ => True) (fun _ _ => trivial)).1
      rw [hne]
      refine BoolK.mk (fun t => by simp at t) (fun _ => ?_)
      refine (same_res h1 h2 x2 _ fun w20 x20 => ⟨_, rfl, BoolK.mk (fun t => by cases t) (fun _ => ?_)⟩).2
      have y20 := (x1.trans x2).trans x20
      -- Join
      refine (c27 w20 a1 l1 c1 a2 l2 c2 d e (hd'.ext RPair.mono y20) (he'.ext RPair.mono y20) (by omega) (by omega)).mono ?_
      rintro en w24 ⟨_, _, _, _, rfl, h3, x3⟩
      refine ⟨_, _, _, _, rfl, ?_⟩
      have y24 := y20.trans x3
      refine (c28 w24 a1 l1 c1 a2 l2 c2 d e (hd'.ext RPair.mono y24) (he'.ext RPair.mono y24) sd se).mono ?_
      rintro en w28 ⟨_, _, _, _, rfl, h4, x4⟩
      refine ⟨_, _, _, _, rfl, ?_⟩
      have hne : (_ : Int) = _ := (same_res h3 h4 x4 (fun _ _ => True) (fun _ _ => trivial)).1
      rw [hne]
      refine BoolK.mk (fun t => by simp at t) (fun _ => ?_)
      refine (same_res h3 h4 x4 _ fun w31 x31 => ⟨_, rfl, BoolK.mk (fun t => by cases t) (fun _ => ?_)⟩).2
      have y31 := (y24.trans x4).trans x31
      -- Minus
      refine (c24 w31 a1 l1 c1 a2 l2 c2 d e (hd'.ext RPair.mono y31) (he'.ext RPair.mono y31) (by omega) (by omega)).mono ?_
      rintro en w35 ⟨_, _, _, _, rfl, h5, x5⟩
      refine ⟨_, _, _, _, rfl, ?_⟩
      have y35 := y31.trans x5
      refine (c29 w35 a1 l1 c1 a2 l2 c2 d e (hd'.ext RPair.mono y35) (he'.ext RPair.mono y35) sd se).mono ?_
      rintro en w39 ⟨_, _, _, _, rfl, h6, x6⟩
      refine ⟨_, _, _, _, rfl, ?_⟩
      have hne : (_ : Int) = _ := (same_res h5 h6 x6 (fun _ _ => True) (fun _ _ => trivial)).1
      rw [hne]
      refine BoolK.mk (fun t => by simp at t) (fun _ => ?_)
      refine (same_res h5 h6 x6 _ fun w42 x42 => ⟨_, rfl, BoolK.mk (fun t => by cases t) (fun _ => ?_)⟩).2
      have y42 := (y35.trans x6).trans x42
      -- Of
      refine (c30 w42 a3 l3 c3 ns (hn'.ext RInt.mono y42) (by omega)).mono ?_
      rintro en w46 ⟨_, _, _, _, rfl, h7, x7⟩
      refine ⟨_, _, _, _, rfl, ?_⟩
      have y46 := y42.trans x7
      refine (c31 w46 a3 l3 c3 ns (hn'.ext RInt.mono y46) (by omega)).mono ?_
      rintro en w50 ⟨_, _, _, _, rfl, h8, x8⟩
      refine ⟨_, _, _, _, rfl, ?_⟩
      have hne : (_ : Int) = _ := (same_res h7 h8 x8 (fun _ _ => True) (fun _ _ => trivial)).1
      rw [hne]
      refine BoolK.mk (fun _ => ?_) (fun t => by simp at t)
      refine (same_res h7 h8 x8 _ fun w53 x53 => ⟨_, rfl, BoolK.mk (fun _ => ?_) (fun t => by cases t)⟩).2
      have y53 := (y46.trans x8).trans x53
      -- Valid
      refine (c32 w53 a1 l1 c1 d (hd'.ext RPair.mono y53) (by omega)).mono ?_
      rintro en w56 ⟨p, rfl, rfl, x56⟩
      refine ⟨_, rfl, ?_⟩
      have y56 := y53.trans x56
      refine (c33 w56 a1 l1 c1 d (hd'.ext RPair.mono y56) sd.1 sd.2).mono ?_
      rintro en w59 ⟨p, rfl, rfl, x59⟩
      refine ⟨_, rfl, BoolK.mk (fun _ => ?_) (fun t => by simp at t)⟩
      have y59 := y56.trans x59
      -- Values
      refine (c35 w59 a1 l1 c1 d (hd'.ext RPair.mono y59) (by omega)).mono ?_
      rintro en w62 ⟨_, _, _, rfl, h9, x62⟩
      refine ⟨_, _, _, rfl, ?_⟩
      have y62 := y59.trans x62
      refine (c36 w62 a1 l1 c1 d (hd'.ext RPair.mono y62) sd.1 sd.2).mono ?_
      rintro en w65 ⟨_, _, _, rfl, h10, x65⟩
      refine ⟨_, _, _, rfl, ?_⟩
      have y65 := y62.trans x65
      have hvl : (if validB d then vals d else []).length ≤ 9223372036854775807 := by
        split
        · rename_i hv; have := ((validB_iff d).1 hv).vals_len; omega
        · simp
      refine (c34 w65 _ _ _ _ _ _ _ _ (h9.ints.ext RInt.mono x65) h10.ints hvl).mono ?_
      rintro en w68 ⟨p, rfl, rfl, x68⟩
      have y68 := y65.trans x68
      refine ⟨_, rfl, BoolK.mk (fun _ => ?_) (fun t => by simp at t)⟩
      -- Has
      refine (c37 w68 a1 l1 c1 d v (hd'.ext RPair.mono y68) (by omega)).mono ?_
      rintro en w71 ⟨p, rfl, rfl, x71⟩
      have y71 := y68.trans x71
      refine ⟨_, rfl, ?_⟩
      refine (c38 w71 a1 l1 c1 d v (hd'.ext RPair.mono y71) sd).mono ?_
      rintro en w74 ⟨p, rfl, rfl, x74⟩
      have y74 := y71.trans x74
      refine ⟨_, rfl, BoolK.mk (fun _ => ?_) (fun t => by simp at t)⟩
      -- Size
      refine (c39 w74 a1 l1 c1 d (hd'.ext RPair.mono y74) (by omega)).mono ?_
      rintro en w77 ⟨p, rfl, rfl, x77⟩
      have y77 := y74.trans x77
      refine ⟨_, rfl, ?_⟩
      refine (c40 w77 a1 l1 c1 d (hd'.ext RPair.mono y77) sd).mono ?_
      rintro en w80 ⟨p, rfl, rfl, x80⟩
      have y80 := y77.trans x80
      refine ⟨_, rfl, BoolK.mk (fun _ => ?_) (fun t => by simp at t)⟩
      refine (c12 w80).mono ?_
      rintro en w83 ⟨p, rfl, rfl, x83⟩
      exact ⟨_, rfl, hK _ (y80.trans x83)⟩
    · refine BoolK.mk (fun t => ?_) (fun t => ?_)
      · simp at t; exact ⟨rfl, (decide_eq_true (by omega)).symm⟩
      simp at t
      refine BoolK.mk (fun t2 => ?_) (fun t2 => ?_)
      · simp at t2; exact ⟨rfl, (decide_eq_true (by omega)).symm⟩
      simp at t2
      refine ⟨rfl, ?_⟩
      rw [decide_eq_decide]; omega
  refine (calls6 _ _ _ _ _ _ _ _ _ _ (fun p w' => p = true ∧ Ext w w') w (key _ fun w' hx => ⟨rfl, hx⟩)).mono ?_
  rintro en w' ⟨p, rfl, rfl, hx⟩
  exact ⟨rfl, hx⟩
end Go.Proofs.Ytggfnakhmjkoeaa

namespace Go.Proofs.Ytggfnakhmjkoeaa
open Go Go.V Go.Proofs
open Go.RowKit (Below)
/-! math/bits.Mul64 -/
def N86 (x1 : Int) (x2 : Int) (K : Int → Int → World → Prop) (w : World) : Prop :=
  0 ≤ (32 : Int) ∧
  (0 ≤ (32 : Int) ∧
    (0 ≤ (32 : Int) ∧
      (0 ≤ (32 : Int) ∧
        (0 ≤ (32 : Int) ∧
          (K (IntKind.wrap .u64 ((IntKind.wrap .u64 ((IntKind.wrap .u64 (((x1 : Int).fdiv (2 ^ (min (32 : Int).toNat (IntKind.bits .u64)))) * ((x2 : Int).fdiv (2 ^ (min (32 : Int).toNat (IntKind.bits .u64)))))) + ((IntKind.wrap .u64 ((IntKind.wrap .u64 (((x1 : Int).fdiv (2 ^ (min (32 : Int).toNat (IntKind.bits .u64)))) * (IntKind.wrap .u64 (((BitVec.ofInt (IntKind.bits .u64) x2) &&& (BitVec.ofInt (IntKind.bits .u64) 4294967295)).toNat)))) + ((IntKind.wrap .u64 ((IntKind.wrap .u64 (((BitVec.ofInt (IntKind.bits .u64) x1) &&& (BitVec.ofInt (IntKind.bits .u64) 4294967295)).toNat)) * (IntKind.wrap .u64 (((BitVec.ofInt (IntKind.bits .u64) x2) &&& (BitVec.ofInt (IntKind.bits .u64) 4294967295)).toNat))) : Int).fdiv (2 ^ (min (32 : Int).toNat (IntKind.bits .u64))))) : Int).fdiv (2 ^ (min (32 : Int).toNat (IntKind.bits .u64)))))) + ((IntKind.wrap .u64 ((IntKind.wrap .u64 (((BitVec.ofInt (IntKind.bits .u64) (IntKind.wrap .u64 ((IntKind.wrap .u64 (((x1 : Int).fdiv (2 ^ (min (32 : Int).toNat (IntKind.bits .u64)))) * (IntKind.wrap .u64 (((BitVec.ofInt (IntKind.bits .u64) x2) &&& (BitVec.ofInt (IntKind.bits .u64) 4294967295)).toNat)))) + ((IntKind.wrap .u64 ((IntKind.wrap .u64 (((BitVec.ofInt (IntKind.bits .u64) x1) &&& (BitVec.ofInt (IntKind.bits .u64) 4294967295)).toNat)) * (IntKind.wrap .u64 (((BitVec.ofInt (IntKind.bits .u64) x2) &&& (BitVec.ofInt (IntKind.bits .u64) 4294967295)).toNat))) : Int).fdiv (2 ^ (min (32 : Int).toNat (IntKind.bits .u64))))))) &&& (BitVec.ofInt (IntKind.bits .u64) 4294967295)).toNat)) + (IntKind.wrap .u64 ((IntKind.wrap .u64 (((BitVec.ofInt (IntKind.bits .u64) x1) &&& (BitVec.ofInt (IntKind.bits .u64) 4294967295)).toNat)) * ((x2 : Int).fdiv (2 ^ (min (32 : Int).toNat (IntKind.bits .u64))))))) : Int).fdiv (2 ^ (min (32 : Int).toNat (IntKind.bits .u64)))))) (IntKind.wrap .u64 (x1 * x2)) w)))))
def ann86 : Ann := (.two .nil (.two .nil (.two .nil (.two .nil (.two .nil (.two .nil (.two .nil (.two .nil (.two .nil (.two .nil (.two .nil (.two .nil .nil))))))))))))
noncomputable def code86 : Code := match Try.f86.body with | some c => c | none => .skip
theorem wp86 (x1 : Int) (x2 : Int) (K : Int → Int → World → Prop) (w : World) : WP Try.prog tab code86 ann86 (fnQ tab Try.f86.results.toList [(.one (.int .u64)), (.one (.int .u64))] K) (argE 0 [(.int .u64 x1), (.int .u64 x2)]) w = N86 x1 x2 K w := by kernel_rfl
theorem calls86 (x1 : Int) (x2 : Int) (K : Int → Int → World → Prop) (w : World) (h : N86 x1 x2 K w) : Calls Try.prog 86 #[(.int .u64 x1), (.int .u64 x2)] w fun en w' => ∃ (x3 : Int), ∃ (x4 : Int), en = .returned (.tuple #[(.int .u64 x3), (.int .u64 x4)]) ∧ K x3 x4 w' :=
  have e : (fun en w' => ExShs [(.one (.int .u64)), (.one (.int .u64))] fun vs => en = .returned (tupled vs) ∧ ap [(.one (.int .u64)), (.one (.int .u64))] K vs fun p => p w') = (fun (en : Ending) (w' : World) => ∃ (x3 : Int), ∃ (x4 : Int), en = .returned (.tuple #[(.int .u64 x3), (.int .u64 x4)]) ∧ K x3 x4 w') := by kernel_rfl
  e ▸ fn_sound tabOk mixed Try.func86 (by kernel_rfl : Try.f86.body = some code86) ann86 [(.int .u64 x1), (.int .u64 x2)] [(.one (.int .u64)), (.one (.int .u64))] K w (by kernel_rfl) ((wp86 x1 x2 K w).symm ▸ h)
end Go.Proofs.Ytggfnakhmjkoeaa

namespace Go.Proofs.Ytggfnakhmjkoeaa
open Go Go.V Go.Proofs
open Go.RowKit (Below)
/-! (manystrand/domain.wide).plus -/
def N71 (x1 : Int) (x2 : Int) (x3 : Int) (x4 : Int) (K : Int → Int → World → Prop) (w : World) : Prop :=
  AllocK w (#[(.int .i64 x1), (.int .u64 x2)]) 80 fun b5 w6 =>
  AllocK w6 (#[(.int .i64 x3), (.int .u64 x4)]) 80 fun b7 w8 =>
  AllocK w8 (#[.int .i64 0, .int .u64 0]) 80 fun b9 w10 =>
  ∃ (x11 : Int), w10.cell? (b5.add 1) = some (.int .u64 x11) ∧
  (∃ (x12 : Int), w10.cell? (b7.add 1) = some (.int .u64 x12) ∧
    (∃ (x13 : Int), ∃ (x14 : Int), ∃ (w15 : World), Sem.run Try.prog (callFunc 85 #[(.int .u64 x11), (.int .u64 x12), (.int .u64 0)]) w10 = .ok (.value (.tuple #[(.int .u64 x13), (.int .u64 x14)])) w15 ∧
      (∃ (x16 : Int), w15.cell? b5 = some (.int .i64 x16) ∧
        (∃ (x17 : Int), w15.cell? b7 = some (.int .i64 x17) ∧
          (SetK w15 (b9.add 0) (.int .i64 (IntKind.wrap .i64 ((IntKind.wrap .i64 (x16 + x17)) + (IntKind.wrap .i64 x14)))) fun w18 =>
            SetK w18 (b9.add 1) (.int .u64 x13) fun w19 =>
            ∃ (x20 : Int), w19.cell? (b9.add 0) = some (.int .i64 x20) ∧
            (∃ (x21 : Int), w19.cell? (b9.add 1) = some (.int .u64 x21) ∧
              (K x20 x21 w19)))))))
def ann71 : Ann := (.two .nil (.two .nil (.two .nil .nil)))
noncomputable def code71 : Code := match Try.f71.body with | some c => c | none => .skip
theorem wp71 (x1 : Int) (x2 : Int) (x3 : Int) (x4 : Int) (K : Int → Int → World → Prop) (w : World) : WP Try.prog tab code71 ann71 (fnQ tab Try.f71.results.toList [(.agg [(.int .i64), (.int .u64)])] K) (argE 0 [(.agg #[(.int .i64 x1), (.int .u64 x2)]), (.agg #[(.int .i64 x3), (.int .u64 x4)])]) w = N71 x1 x2 x3 x4 K w := by kernel_rfl
theorem calls71 (x1 : Int) (x2 : Int) (x3 : Int) (x4 : Int) (K : Int → Int → World → Prop) (w : World) (h : N71 x1 x2 x3 x4 K w) : Calls Try.prog 71 #[(.agg #[(.int .i64 x1), (.int .u64 x2)]), (.agg #[(.int .i64 x3), (.int .u64 x4)])] w fun en w' => ∃ (x22 : Int), ∃ (x23 : Int), en = .returned (.agg #[(.int .i64 x22), (.int .u64 x23)]) ∧ K x22 x23 w' :=
  have e : (fun en w' => ExShs [(.agg [(.int .i64), (.int .u64)])] fun vs => en = .returned (tupled vs) ∧ ap [(.agg [(.int .i64), (.int .u64)])] K vs fun p => p w') = (fun (en : Ending) (w' : World) => ∃ (x22 : Int), ∃ (x23 : Int), en = .returned (.agg #[(.int .i64 x22), (.int .u64 x23)]) ∧ K x22 x23 w') := by kernel_rfl
  e ▸ fn_sound tabOk mixed Try.func71 (by kernel_rfl : Try.f71.body = some code71) ann71 [(.agg #[(.int .i64 x1), (.int .u64 x2)]), (.agg #[(.int .i64 x3), (.int .u64 x4)])] [(.agg [(.int .i64), (.int .u64)])] K w (by kernel_rfl) ((wp71 x1 x2 x3 x4 K w).symm ▸ h)
end Go.Proofs.Ytggfnakhmjkoeaa

namespace Go.Proofs.Ytggfnakhmjkoeaa
open Go Go.V Go.Proofs
open Go.RowKit (Below)
/-! manystrand/domain.times -/
def N72 (x1 : Int) (x2 : Int) (K : Int → Int → World → Prop) (w : World) : Prop :=
  AllocK w (#[.int .i64 0, .int .u64 0]) 80 fun b3 w4 =>
  ∃ (J5 : Int → World → Prop),
  (∀ (w6 : World) (x7 : Int), J5 x7 w6 →
    ∃ (J8 : Int → World → Prop),
    (∀ (w9 : World) (x10 : Int), J8 x10 w9 →
      Calls Try.prog 86 #[(.int .u64 x7), (.int .u64 x10)] w9 fun e14 w13 =>
      ∃ (x11 : Int), ∃ (x12 : Int), e14 = .returned (.tuple #[(.int .u64 x11), (.int .u64 x12)]) ∧
      (BoolK (!((decide ((x1 : Int) < 0)) == (decide ((x2 : Int) < 0))))
        (BoolK ((IntKind.wrap .u64 (0 - x12) : Int) == 0)
          (SetK w13 (b3.add 0) (.int .i64 (IntKind.wrap .i64 (IntKind.wrap .u64 ((IntKind.wrap (.u64 : IntKind) ((BitVec.ofInt (IntKind.bits (.u64 : IntKind)) (if IntKind.signed (.u64 : IntKind) then -1 else IntKind.max (.u64 : IntKind))) ^^^ (BitVec.ofInt (IntKind.bits (.u64 : IntKind)) x11)).toNat) + 1)))) fun w15 =>
            SetK w15 (b3.add 1) (.int .u64 (IntKind.wrap .u64 (0 - x12))) fun w16 =>
            ∃ (x17 : Int), w16.cell? (b3.add 0) = some (.int .i64 x17) ∧
            (∃ (x18 : Int), w16.cell? (b3.add 1) = some (.int .u64 x18) ∧
              (K x17 x18 w16)))
          (SetK w13 (b3.add 0) (.int .i64 (IntKind.wrap .i64 (IntKind.wrap (.u64 : IntKind) ((BitVec.ofInt (IntKind.bits (.u64 : IntKind)) (if IntKind.signed (.u64 : IntKind) then -1 else IntKind.max (.u64 : IntKind))) ^^^ (BitVec.ofInt (IntKind.bits (.u64 : IntKind)) x11)).toNat))) fun w19 =>
            SetK w19 (b3.add 1) (.int .u64 (IntKind.wrap .u64 (0 - x12))) fun w20 =>
            ∃ (x21 : Int), w20.cell? (b3.add 0) = some (.int .i64 x21) ∧
            (∃ (x22 : Int), w20.cell? (b3.add 1) = some (.int .u64 x22) ∧
              (K x21 x22 w20))))
        (SetK w13 (b3.add 0) (.int .i64 (IntKind.wrap .i64 x11)) fun w23 =>
          SetK w23 (b3.add 1) (.int .u64 x12) fun w24 =>
          ∃ (x25 : Int), w24.cell? (b3.add 0) = some (.int .i64 x25) ∧
          (∃ (x26 : Int), w24.cell? (b3.add 1) = some (.int .u64 x26) ∧
            (K x25 x26 w24))))) ∧
    (BoolK (decide ((x2 : Int) < 0))
      (J8 (IntKind.wrap .u64 (0 - (IntKind.wrap .u64 x2))) w6)
      (J8 (IntKind.wrap .u64 x2) w6))) ∧
  (BoolK (decide ((x1 : Int) < 0))
    (J5 (IntKind.wrap .u64 (0 - (IntKind.wrap .u64 x1))) w4)
    (J5 (IntKind.wrap .u64 x1) w4))
def ann72 : Ann := (.two .nil (.two .nil (.two .nil (.cut [(6, (.one (.int .u64)))] [1, 4, 5, 7] (.two .nil (.two .nil .nil)) (.cut [(7, (.one (.int .u64)))] [4, 5, 6] (.two .nil (.two .nil .nil)) (.two .nil (.two (.two .nil (.two (.two .nil (.two .nil (.two .nil .nil))) .nil)) (.two .nil .nil))))))))
noncomputable def code72 : Code := match Try.f72.body with | some c => c | none => .skip
theorem wp72 (x1 : Int) (x2 : Int) (K : Int → Int → World → Prop) (w : World) : WP Try.prog tab code72 ann72 (fnQ tab Try.f72.results.toList [(.agg [(.int .i64), (.int .u64)])] K) (argE 0 [(.int .i64 x1), (.int .i64 x2)]) w = N72 x1 x2 K w := by kernel_rfl
theorem calls72 (x1 : Int) (x2 : Int) (K : Int → Int → World → Prop) (w : World) (h : N72 x1 x2 K w) : Calls Try.prog 72 #[(.int .i64 x1), (.int .i64 x2)] w fun en w' => ∃ (x27 : Int), ∃ (x28 : Int), en = .returned (.agg #[(.int .i64 x27), (.int .u64 x28)]) ∧ K x27 x28 w' :=
  have e : (fun en w' => ExShs [(.agg [(.int .i64), (.int .u64)])] fun vs => en = .returned (tupled vs) ∧ ap [(.agg [(.int .i64), (.int .u64)])] K vs fun p => p w') = (fun (en : Ending) (w' : World) => ∃ (x27 : Int), ∃ (x28 : Int), en = .returned (.agg #[(.int .i64 x27), (.int .u64 x28)]) ∧ K x27 x28 w') := by kernel_rfl
  e ▸ fn_sound tabOk mixed Try.func72 (by kernel_rfl : Try.f72.body = some code72) ann72 [(.int .i64 x1), (.int .i64 x2)] [(.agg [(.int .i64), (.int .u64)])] K w (by kernel_rfl) ((wp72 x1 x2 K w).symm ▸ h)
end Go.Proofs.Ytggfnakhmjkoeaa

namespace Go.Proofs.Ytggfnakhmjkoeaa
open Go Go.V Go.Proofs
open Go.RowKit (Below)
/-! (manystrand/domain.wide).compare -/
def N73 (x1 : Int) (x2 : Int) (x3 : Int) (x4 : Int) (K : Int → World → Prop) (w : World) : Prop :=
  AllocK w (#[(.int .i64 x1), (.int .u64 x2)]) 80 fun b5 w6 =>
  AllocK w6 (#[(.int .i64 x3), (.int .u64 x4)]) 80 fun b7 w8 =>
  ∃ (J9 : Bool → World → Prop),
  (∀ (w10 : World) (p11 : Bool), J9 p11 w10 →
    BoolK p11
    (K (-1) w10)
    (∃ (x12 : Int), w10.cell? (b5.add 0) = some (.int .i64 x12) ∧
      (∃ (x13 : Int), w10.cell? (b5.add 1) = some (.int .u64 x13) ∧
        (∃ (x14 : Int), w10.cell? (b7.add 0) = some (.int .i64 x14) ∧
          (∃ (x15 : Int), w10.cell? (b7.add 1) = some (.int .u64 x15) ∧
            (BoolK (((x12 : Int) == x14) && (((x13 : Int) == x15) && (true)))
              (K 0 w10)
              (K 1 w10))))))) ∧
  (∃ (x16 : Int), w8.cell? b5 = some (.int .i64 x16) ∧
    (∃ (x17 : Int), w8.cell? b7 = some (.int .i64 x17) ∧
      (BoolK (decide ((x16 : Int) < x17))
        (J9 true w8)
        (∃ (x18 : Int), w8.cell? b5 = some (.int .i64 x18) ∧
          (∃ (x19 : Int), w8.cell? b7 = some (.int .i64 x19) ∧
            (BoolK ((x18 : Int) == x19)
              (∃ (x20 : Int), w8.cell? (b5.add 1) = some (.int .u64 x20) ∧
                (∃ (x21 : Int), w8.cell? (b7.add 1) = some (.int .u64 x21) ∧
                  (J9 (decide ((x20 : Int) < x21)) w8)))
              (J9 false w8)))))))
def ann73 : Ann := (.two .nil (.two (.one (.cut [(5, (.one .bool))] [2, 3] .nil (.two (.two .nil .nil) (.two .nil (.two (.two .nil .nil) .nil))))) (.two .nil .nil)))
noncomputable def code73 : Code := match Try.f73.body with | some c => c | none => .skip
theorem wp73 (x1 : Int) (x2 : Int) (x3 : Int) (x4 : Int) (K : Int → World → Prop) (w : World) : WP Try.prog tab code73 ann73 (fnQ tab Try.f73.results.toList [(.one (.int .i64))] K) (argE 0 [(.agg #[(.int .i64 x1), (.int .u64 x2)]), (.agg #[(.int .i64 x3), (.int .u64 x4)])]) w = N73 x1 x2 x3 x4 K w := by kernel_rfl
theorem calls73 (x1 : Int) (x2 : Int) (x3 : Int) (x4 : Int) (K : Int → World → Prop) (w : World) (h : N73 x1 x2 x3 x4 K w) : Calls Try.prog 73 #[(.agg #[(.int .i64 x1), (.int .u64 x2)]), (.agg #[(.int .i64 x3), (.int .u64 x4)])] w fun en w' => ∃ (x22 : Int), en = .returned (.int .i64 x22) ∧ K x22 w' :=
  have e : (fun en w' => ExShs [(.one (.int .i64))] fun vs => en = .returned (tupled vs) ∧ ap [(.one (.int .i64))] K vs fun p => p w') = (fun (en : Ending) (w' : World) => ∃ (x22 : Int), en = .returned (.int .i64 x22) ∧ K x22 w') := by kernel_rfl
  e ▸ fn_sound tabOk mixed Try.func73 (by kernel_rfl : Try.f73.body = some code73) ann73 [(.agg #[(.int .i64 x1), (.int .u64 x2)]), (.agg #[(.int .i64 x3), (.int .u64 x4)])] [(.one (.int .i64))] K w (by kernel_rfl) ((wp73 x1 x2 x3 x4 K w).symm ▸ h)
end Go.Proofs.Ytggfnakhmjkoeaa

namespace Go.Proofs.Ytggfnakhmjkoeaa
open Go Go.V Go.Proofs
open Go.RowKit (Below)
/-! manystrand/domain.more -/
def N74 (x1 : Int) (x2 : Int) (x3 : Int) (K : Int → World → Prop) (w : World) : Prop :=
  Calls Try.prog 72 #[(.int .i64 x1), (.int .i64 1)] w fun e7 w6 =>
  ∃ (x4 : Int), ∃ (x5 : Int), e7 = .returned (.agg #[(.int .i64 x4), (.int .u64 x5)]) ∧
  (Calls Try.prog 72 #[(.int .i64 x2), (.int .i64 1)] w6 fun e11 w10 =>
    ∃ (x8 : Int), ∃ (x9 : Int), e11 = .returned (.agg #[(.int .i64 x8), (.int .u64 x9)]) ∧
    (Calls Try.prog 71 #[(.agg #[(.int .i64 x4), (.int .u64 x5)]), (.agg #[(.int .i64 x8), (.int .u64 x9)])] w10 fun e15 w14 =>
      ∃ (x12 : Int), ∃ (x13 : Int), e15 = .returned (.agg #[(.int .i64 x12), (.int .u64 x13)]) ∧
      (Calls Try.prog 72 #[(.int .i64 x3), (.int .i64 1)] w14 fun e19 w18 =>
        ∃ (x16 : Int), ∃ (x17 : Int), e19 = .returned (.agg #[(.int .i64 x16), (.int .u64 x17)]) ∧
        (Calls Try.prog 73 #[(.agg #[(.int .i64 x12), (.int .u64 x13)]), (.agg #[(.int .i64 x16), (.int .u64 x17)])] w18 fun e22 w21 =>
          ∃ (x20 : Int), e22 = .returned (.int .i64 x20) ∧
          (K x20 w21)))))
def ann74 : Ann := (.two .nil (.two .nil .nil))
noncomputable def code74 : Code := match Try.f74.body with | some c => c | none => .skip
theorem wp74 (x1 : Int) (x2 : Int) (x3 : Int) (K : Int → World → Prop) (w : World) : WP Try.prog tab code74 ann74 (fnQ tab Try.f74.results.toList [(.one (.int .i64))] K) (argE 0 [(.int .i64 x1), (.int .i64 x2), (.int .i64 x3)]) w = N74 x1 x2 x3 K w := by kernel_rfl
theorem calls74 (x1 : Int) (x2 : Int) (x3 : Int) (K : Int → World → Prop) (w : World) (h : N74 x1 x2 x3 K w) : Calls Try.prog 74 #[(.int .i64 x1), (.int .i64 x2), (.int .i64 x3)] w fun en w' => ∃ (x23 : Int), en = .returned (.int .i64 x23) ∧ K x23 w' :=
  have e : (fun en w' => ExShs [(.one (.int .i64))] fun vs => en = .returned (tupled vs) ∧ ap [(.one (.int .i64))] K vs fun p => p w') = (fun (en : Ending) (w' : World) => ∃ (x23 : Int), en = .returned (.int .i64 x23) ∧ K x23 w') := by kernel_rfl
  e ▸ fn_sound tabOk mixed Try.func74 (by kernel_rfl : Try.f74.body = some code74) ann74 [(.int .i64 x1), (.int .i64 x2), (.int .i64 x3)] [(.one (.int .i64))] K w (by kernel_rfl) ((wp74 x1 x2 x3 K w).symm ▸ h)
end Go.Proofs.Ytggfnakhmjkoeaa
