/- A part of the proof: plain forms of functions and laws about them. -/
import Derived.Test.YtnmldggopnbclaaGreatDoorGrliAd
import Derived.OrdersHeld
namespace Go.V
open Go.RowKit (Below)
structure Same (D : Nat → Bool) (a a' : Act) : Prop where
 slot : ∀ t, D t = false → a'.tmps.getD t undef = a.tmps.getD t undef
 defers : a'.defers = a.defers
theorem Same.refl (D : Nat → Bool) (a : Act) : Same D a a := ⟨fun _ _ => rfl, rfl⟩
theorem Same.trans {D : Nat → Bool} {a b c : Act} (h : Same D a b) (k : Same D b c) : Same D a c := ⟨fun t ht => (k.slot t ht).trans (h.slot t ht), k.defers.trans h.defers⟩
theorem Same.mono {D D' : Nat → Bool} {a b : Act} (h : Same D a b) (hD : ∀ t, D' t = false → D t = false) : Same D' a b := ⟨fun t ht => h.slot t (hD t ht), h.defers⟩
theorem Same.put {D : Nat → Bool} {a b : Act} (h : Same D a b) (d : Option Nat) (v : Value) (hd : ∀ t, d = some t → D t = true) : Same D a (b.put d v) := by
 cases d with
 | none => exact h
 | some u =>
  refine ⟨fun t ht => ?_, h.defers⟩
  have hne : u ≠ t := by intro e; subst e; rw [hd u rfl] at ht; cases ht
  rw [← h.slot t ht]
  simp [Act.put, Array.getElem?_setIfInBounds_ne hne]
def guardV (ops : Array Oper) (g : Option (Nat × Bool)) (e : Env) (X Y : Env → Prop) : Prop :=
 match g with
 | none => X e
 | some (j, want) => match (ops[j]?).bind (·.dst) with
  | none => False
  | some t => match get e t with
   | some (.bool b) => BoolK b (bif want then X ((t, .bool true) :: e) else Y ((t, .bool true) :: e)) (bif want then Y ((t, .bool false) :: e) else X ((t, .bool false) :: e))
   | some (.tuple _) => Y e
   | _ => False
theorem Ag.more {N : Nat} {a : Act} {e : Env} (h : Ag N a e) {t : Nat} {v : Value} (hv : a.tmps.getD t undef = v) : Ag N a ((t, v) :: e) := by
 refine ⟨h.size, fun u x hx => ?_⟩
 by_cases htu : t = u
 ·subst htu; rw [get_cons_same] at hx; cases hx; exact hv
 ·rw [get_cons_ne htu] at hx; exact h.at_ u x hx
theorem guardV_sound {N : Nat} {a : Act} {e : Env} {ops : Array Oper} {o : Oper} {X Y : Env → Prop} (hA : Ag N a e) (h : guardV ops o.guard e X Y) :
  ∃ e', Ag N a e' ∧ ((Region.wanted o (yielded ops a.tmps) = true ∧ X e') ∨ (Region.wanted o (yielded ops a.tmps) = false ∧ Y e')) := by
 unfold guardV at h
 unfold Region.wanted
 split at h
 ·rename_i hg; rw [hg]; exact ⟨e, hA, .inl ⟨rfl, h⟩⟩
 ·rename_i j want hg
  rw [hg]
  split at h
  ·exact h.elim
  ·rename_i t ht
   split at h
   ·rename_i b hb
    have hv := hA.at_ t _ hb
    have hy : yielded ops a.tmps j = some b := by
     unfold yielded
     rw [ht]
     have : a.tmps[t]? = some (.bool b) := by
      cases hq : a.tmps[t]? with
      | none => rw [Array.getD_eq_getD_getElem?, hq] at hv; simp [undef] at hv
      | some x => rw [Array.getD_eq_getD_getElem?, hq] at hv; simp at hv; rw [hv]
     simp [this]
    simp only [hy]
    cases b with
    | true =>
     refine ⟨_, hA.more hv, ?_⟩
     cases want
     ·exact .inr ⟨rfl, h⟩
     ·exact .inl ⟨rfl, h⟩
    | false =>
     refine ⟨_, hA.more hv, ?_⟩
     cases want
     ·exact .inl ⟨rfl, h⟩
     ·exact .inr ⟨rfl, h⟩
   ·rename_i vs hb
    have hv := hA.at_ t _ hb
    have hy : yielded ops a.tmps j = none := by
     unfold yielded
     rw [ht]
     cases hq : a.tmps[t]? with
     | none => simp [hq]
     | some x => rw [Array.getD_eq_getD_getElem?, hq] at hv; simp at hv; subst hv; simp [hq]
    simp only [hy]
    exact ⟨e, hA, .inr ⟨rfl, h⟩⟩
   ·exact h.elim
theorem Goes.wp {P : Program} {o : Oper} {a : Act} {K : Value → World → Prop} {w : World} (h : Goes P (execOp a.eval o) K w) {next : Act → World → Prop} {Q : Exit → Act → World → Prop}
  (hn : ∀ v w', K v w' → next (a.put o.dst v) w') : o.wp P a w next Q := by
 unfold Oper.wp
 rcases h with ⟨v, w', hr, hK⟩ | ⟨w', hr, hK⟩ | ⟨g, args, hr, hc⟩
 ·rw [hr]; exact hn _ _ hK
 ·rw [hr]; exact hn _ _ hK
 ·rw [hr]
  refine Calls.mono hc fun en w' h => ?_
  obtain ⟨v, rfl, hK⟩ := h
  exact hn _ _ hK
def opsV (P : Program) (T : Tab) (ops : Array Oper) : List Oper → Env → (Env → World → Prop) → World → Prop
 | [], e, K, w => K e w
 | o :: os, e, K, w => guardV ops o.guard e (fun e => opV P T o e (fun v w' => opsV P T ops os (setD e o.dst v) K w') w) (fun e => opsV P T ops os (setD e o.dst undef) K w)
def Within (N : Nat) (D : Nat → Bool) (os : List Oper) : Prop := ∀ o ∈ os, ∀ t, o.dst = some t → t < N ∧ D t = true
section
variable {P : Program} {T : Tab} (hT : T.Ok P)
include hT in
theorem opsV_sound {N : Nat} {D : Nat → Bool} {ops : Array Oper} {K : Env → World → Prop} {Q : Exit → Act → World → Prop} {a0 : Act} :
  ∀ (os : List Oper) (a : Act) (e : Env) (w : World), Within N D os → Ag N a e → Same D a0 a → opsV P T ops os e K w →
   (∀ a e w, Ag N a e → Same D a0 a → K e w → Q .normal a w) → wpList P ops Q os a w
 | [], a, e, w, _, hA, hS, h, hQ => hQ a e w hA hS h
 | o :: os, a, e, w, hW, hA, hS, h, hQ => by
  have hWo := hW o List.mem_cons_self
  have hWs : Within N D os := fun o' ho' => hW o' (List.mem_cons_of_mem _ ho')
  obtain ⟨e', hA', h⟩ := guardV_sound hA h
  unfold wpList
  rcases h with ⟨hw, h⟩ | ⟨hw, h⟩
  ·rw [if_pos hw]
   refine .inl ((opV_sound hT hA' h).wp fun v w' hK => ?_)
   exact opsV_sound os _ _ _ hWs (hA'.put _ _ fun t ht => (hWo t ht).1) (hS.put _ _ fun t ht => (hWo t ht).2) hK hQ
  ·rw [if_neg (by simp [hw])]
   exact opsV_sound os _ _ _ hWs (hA'.put _ _ fun t ht => (hWo t ht).1) (hS.put _ _ fun t ht => (hWo t ht).2) h hQ
end
/-! ### Whatever order -/
def waitsB (ops : Array Oper) (j i : Nat) : Bool := match ops[j]? with | some o => o.after.toList.any fun e => Region.binds .any e && Nat.beq e.on i | none => false
theorem waitsB_spec {ops : Array Oper} {j i : Nat} (h : waitsB ops j i = true) : ∃ o, ops[j]? = some o ∧ ∃ e ∈ o.after, Region.binds .any e = true ∧ e.on = i := by
 unfold waitsB at h
 split at h
 ·rename_i o ho
  obtain ⟨e, he, hb⟩ := List.any_eq_true.1 h
  simp only [Bool.and_eq_true] at hb
  exact ⟨o, ho, e, by simpa using he, hb.1, Nat.eq_of_beq_eq_true hb.2⟩
 ·cases h
def tailB (ops : Array Oper) (n : Nat) : Bool :=
 ((List.range n).all fun i => (List.range (n + 1)).any fun j => Nat.blt i j && waitsB ops j i) &&
 ((List.range ops.size).all fun t => Nat.ble t n || (List.range t).any fun j => Nat.ble n j && waitsB ops t j)
structure Inv (ops : Array Oper) (n : Nat) (listed : Array Bool) : Prop where
 size : listed.size = ops.size
 down : ∀ j o, ops[j]? = some o → listed.getD j false = true → ∀ e ∈ o.after, Region.binds .any e = true → listed.getD e.on false = true
 tail : ∀ t, n ≤ t → listed.getD t false = false
theorem unB {listed : Array Bool} {i : Nat} (h : listed.getD i true = false) : listed.getD i false = false := by
 cases hq : listed[i]? with
 | none => rw [Array.getD_eq_getD_getElem?, hq] at h; cases h
 | some b => rw [Array.getD_eq_getD_getElem?, hq] at h ⊢; exact h
theorem ready_lt {ops : Array Oper} {listed : Array Bool} {i : Nat} (h : i ∈ Region.ready .any ops listed) : i < listed.size := by
 have := (mem_ready.1 h).1
 rcases Nat.lt_or_ge i listed.size with h' | h'
 ·exact h'
 ·rw [Array.getD_eq_getD_getElem?, Array.getElem?_eq_none h'] at this; cases this
theorem Inv.set {ops : Array Oper} {n i : Nat} {listed : Array Bool} (inv : Inv ops n listed) (hi : i ∈ Region.ready .any ops listed) (hin : i < n) : Inv ops n (listed.setIfInBounds i true) := by
 obtain ⟨_, oi, hoi, hall⟩ := mem_ready.1 hi
 refine ⟨by simp [inv.size], fun j o hj hl e he hb => ?_, fun t ht => by rw [getD_set_ne false (by omega)]; exact inv.tail t ht⟩
 by_cases hij : i = j
 ·subst hij
  rw [hoi] at hj; cases hj
  exact getD_set_true (hall e he hb)
 ·rw [getD_set_ne false hij] at hl
  exact getD_set_true (inv.down j o hj hl e he hb)
theorem tail_not_ready {ops : Array Oper} {n : Nat} {listed : Array Bool} (hB : tailB ops n = true) (inv : Inv ops n listed) :
  ∀ (d i : Nat), n - i = d → i < n → listed.getD i false = false → ∀ t, n ≤ t → t ∉ Region.ready .any ops listed := by
 simp only [tailB, Bool.and_eq_true] at hB
 obtain ⟨hs, hc⟩ := hB
 intro d
 induction d using Nat.strongRecOn with
 | _ d ih =>
  intro i hd hi hu t ht hr
  obtain ⟨_, ot, hot, hall⟩ := mem_ready.1 hr
  rcases Nat.lt_or_ge n t with hnt | hnt
  ·have h1 := List.all_eq_true.1 hc t (List.mem_range.2 (Array.getElem?_eq_some_iff.1 hot).1)
   simp only [Bool.or_eq_true] at h1
   rcases h1 with h1 | h1
   ·have := Nat.le_of_ble_eq_true h1; omega
   ·obtain ⟨j0, _, h1⟩ := List.any_eq_true.1 h1
    simp only [Bool.and_eq_true] at h1
    have hnj := Nat.le_of_ble_eq_true h1.1
    obtain ⟨o', ho', e, he, hb, hon⟩ := waitsB_spec h1.2
    rw [hot] at ho'; cases ho'
    have h2 := hall e he hb
    rw [hon, inv.tail j0 hnj] at h2
    cases h2
  ·have htn : t = n := by omega
   subst htn
   have h1 := List.all_eq_true.1 hs i (List.mem_range.2 hi)
   obtain ⟨j, hj, hj2⟩ := List.any_eq_true.1 h1
   simp only [Bool.and_eq_true] at hj2
   have hij : i < j := by have := hj2.1; simpa [Nat.blt_eq] using this
   have hjle : j ≤ t := by have := List.mem_range.1 hj; omega
   obtain ⟨oj, hoj, e, he, hb, hon⟩ := waitsB_spec hj2.2
   by_cases hjt : j = t
   ·subst hjt
    rw [hoj] at hot; cases hot
    have h2 := hall e he hb
    rw [hon, hu] at h2
    cases h2
   ·cases hl : listed.getD j false with
    | true =>
     have h2 := inv.down j oj hoj hl e he hb
     rw [hon, hu] at h2
     cases h2
    | false => exact ih (t - j) (by omega) j rfl (by omega) hl t (Nat.le_refl _) hr
inductive Plan where
 | done | take (i : Nat) (p : Plan) | one (i : Nat) (p : Plan) | both (i : Nat) (p q : Plan)
def Plan.depth : Plan → Nat
 | .done => 0
 | .take _ p | .one _ p => p.depth + 1
 | .both _ p _ => p.depth + 1
def listEq : List Nat → List Nat → Bool
 | [], [] => true
 | a :: x, b :: y => Nat.beq a b && listEq x y
 | _, _ => false
theorem listEq_eq {x : List Nat} : ∀ {y : List Nat}, listEq x y = true → x = y := by
 induction x with
 | nil => intro y h; cases y <;> simp [listEq] at h; rfl
 | cons a x ih =>
  intro y h
  cases y with
  | nil => simp [listEq] at h
  | cons b y => simp only [listEq, Bool.and_eq_true] at h; rw [Nat.eq_of_beq_eq_true h.1, ih h.2]
def memB (i : Nat) : List Nat → Bool
 | [] => false
 | a :: x => Nat.beq a i || memB i x
theorem memB_mem {i : Nat} {x : List Nat} (h : memB i x = true) : i ∈ x := by
 induction x with
 | nil => cases h
 | cons a x ih =>
  simp only [memB, Bool.or_eq_true] at h
  rcases h with h | h
  ·rw [Nat.eq_of_beq_eq_true h]; exact List.mem_cons_self
  ·exact List.mem_cons_of_mem _ (ih h)
def planOk (T : Tab) (ops : Array Oper) (n : Nat) : Plan → Array Bool → Option (List Nat) → Bool
 | .done, listed, none => (List.range n).all fun i => listed.getD i false
 | .done, _, some _ => false
 | .take i p, listed, none => Nat.blt i n && memB i (Region.ready .any ops listed) && Region.free .any ops listed i && (match ops[i]? with | some o => isPure T o.op | none => false) && planOk T ops n p (listed.setIfInBounds i true) none
 | .take _ _, _, some _ => false
 | .one i p, listed, rs => Nat.blt i n && listEq (rs.getD (Region.ready .any ops listed)) [i] && planOk T ops n p (listed.setIfInBounds i true) none
 | .both i p q, listed, rs => Nat.blt i n && (match rs.getD (Region.ready .any ops listed) with | j :: r => Nat.beq j i && planOk T ops n q listed (some r) | [] => false) && Nat.beq (p.depth + 1) q.depth && planOk T ops n p (listed.setIfInBounds i true) none
def cndK (b : Bool) (X Y : Prop) : Prop := match b with | true => Y | false => X ∧ Y
def anyV (P : Program) (T : Tab) (ops : Array Oper) (w0 : World) (cl : Nat → Bool) (S : World → Prop) : Plan → Env → (Env → World → Prop) → World → Prop
 | .done, e, K, w => K e w
 | .take i p, e, K, w => match ops[i]? with
  | some o => guardV ops o.guard e (fun e => pureV T o.op e w0 fun v => anyV P T ops w0 cl S p (setD e o.dst v) K w) (fun e => anyV P T ops w0 cl S p (setD e o.dst undef) K w)
  | none => False
 | .one i p, e, K, w => match ops[i]? with
  | some o => guardV ops o.guard e (fun e => opV P T o e (fun v w' => cndK (cl i) (S w') (anyV P T ops w0 cl S p (setD e o.dst v) K w')) w) (fun e => anyV P T ops w0 cl S p (setD e o.dst undef) K w)
  | none => False
 | .both i p q, e, K, w => (match ops[i]? with
  | some o => guardV ops o.guard e (fun e => opV P T o e (fun v w' => cndK (cl i) (S w') (anyV P T ops w0 cl S p (setD e o.dst v) K w')) w) (fun e => anyV P T ops w0 cl S p (setD e o.dst undef) K w)
  | none => False) ∧ anyV P T ops w0 cl S q e K w
def noTake : Plan → Bool
 | .done => true
 | .take _ _ => false
 | .one _ p => noTake p
 | .both _ p q => noTake p && noTake q
def unl (n : Nat) (listed : Array Bool) : Nat := ((List.range n).filter fun i => !listed.getD i false).length
theorem unl_set {n i : Nat} {listed : Array Bool} (hi : i < n) (hs : i < listed.size) (hu : listed.getD i false = false) : unl n listed = unl n (listed.setIfInBounds i true) + 1 := by
 unfold unl
 induction n with
 | zero => omega
 | succ n ih =>
  rw [List.range_succ, List.filter_append, List.filter_append, List.length_append, List.length_append]
  by_cases hin : i = n
  ·subst hin
   have h1 : ((List.range i).filter fun j => !listed.getD j false) = ((List.range i).filter fun j => !(listed.setIfInBounds i true).getD j false) := by
    apply List.filter_congr
    intro j hj
    rw [getD_set_ne false (by have := List.mem_range.1 hj; omega)]
   rw [h1]
   have h2 : (listed.setIfInBounds i true).getD i false = true := by simp [hs]
   simp only [List.filter_cons, List.filter_nil, hu, h2, Bool.not_false, Bool.not_true, if_true, Bool.false_eq_true, if_false, List.length_cons, List.length_nil]
  ·have := ih (by omega)
   rw [this]
   simp only [List.filter_cons, List.filter_nil, getD_set_ne false hin]
   omega
theorem unl_zero {n : Nat} {listed : Array Bool} (h : unl n listed = 0) : ∀ i, i < n → listed.getD i false = true := by
 intro i hi
 unfold unl at h
 rw [List.length_eq_zero_iff, List.filter_eq_nil_iff] at h
 have := h i (List.mem_range.2 hi)
 simpa using this
theorem unl_pos {n : Nat} {listed : Array Bool} (h : unl n listed ≠ 0) : ∃ i, i < n ∧ listed.getD i false = false := by
 unfold unl at h
 have h1 : 0 < ((List.range n).filter fun i => !listed.getD i false).length := by omega
 obtain ⟨i, hi⟩ := List.exists_mem_of_length_pos h1
 rw [List.mem_filter, List.mem_range] at hi
 exact ⟨i, hi.1, by simpa using hi.2⟩
section
variable {P : Program} {ops : Array Oper} {Q : Exit → Act → World → Prop} {n : Nat} {S : Nat → World → World → Prop} {R : World → Prop} {L : Act → World → Prop}
def wpN (P : Program) (ops : Array Oper) (Q : Exit → Act → World → Prop) (S : Nat → World → World → Prop) (L : Act → World → Prop) : Nat → Array Bool → Act → World → Prop
 | 0, _, a, w => L a w
 | f + 1, listed, a, w => Region.ready .any ops listed ≠ [] ∧ ∀ i ∈ Region.ready .any ops listed, wpOp P ops Q i (fun a' w' => S i w w' ∧ wpN P ops Q S L f (listed.setIfInBounds i true) a' w') a w
def TailWaits (ops : Array Oper) (n : Nat) : Prop := n = ops.size ∨ (n < ops.size ∧ tailB ops n = true)
theorem ready_head (ht : TailWaits ops n) {listed : Array Bool} (inv : Inv ops n listed) {i : Nat} (hi : i < n) (hu : listed.getD i false = false) {j : Nat} (hj : j ∈ Region.ready .any ops listed) : j < n := by
 rcases ht with rfl | ⟨_, hB⟩
 ·obtain ⟨_, o, ho, _⟩ := mem_ready.1 hj
  exact (Array.getElem?_eq_some_iff.1 ho).1
 ·rcases Nat.lt_or_ge j n with h | h
  ·exact h
  ·exact absurd hj (tail_not_ready hB inv _ i rfl hi hu j h)
theorem wpAny_of_N (ht : TailWaits ops n) {g : Nat} (hL : ∀ listed a w, Inv ops n listed → unl n listed = 0 → L a w → wpAny P .any ops Q g listed a w) :
  ∀ (f : Nat) (listed : Array Bool) (a : Act) (w : World), Inv ops n listed → unl n listed = f → wpN P ops Q S L f listed a w → wpAny P .any ops Q (f + g) listed a w
 | 0, listed, a, w, inv, hu, h => by rw [Nat.zero_add]; exact hL _ _ _ inv hu h
 | f + 1, listed, a, w, inv, hu, h => by
  rw [show f + 1 + g = (f + g) + 1 by omega]
  refine ⟨fun h0 => absurd h0 h.1, fun i hi => ?_⟩
  obtain ⟨k, hk, hku⟩ := unl_pos (by omega : unl n listed ≠ 0)
  have hin := ready_head ht inv hk hku hi
  have hun := unB (mem_ready.1 hi).1
  have hsz := ready_lt hi
  refine wpOp_mono (fun a' w' h' => wpAny_of_N ht hL f _ a' w' (inv.set hi hin) ?_ h'.2) (h.2 i hi)
  have := unl_set hin hsz hun
  omega
theorem wpN_first (ht : TailWaits ops n) {i : Nat} {oi : Oper} {v : Value} (hi : ops[i]? = some oi) (hsel : ∀ (j : Nat) (o : Oper) cs b, ops[j]? = some o → o.op ≠ .select cs b)
  (hQ : ∀ c a w, Q (.panic c) (a.put oi.dst v) w → Q (.panic c) a w) (hSi : ∀ w, R w → S i w w)
  (hSR : ∀ (j : Nat) (listed : Array Bool), Inv ops n listed → j ∈ Region.ready .any ops listed → j < n → j ≠ i → listed.getD i false = false → ∀ w w', R w → S j w w' → R w') :
  ∀ (f : Nat) (listed : Array Bool) (a : Act) (w : World), Inv ops n listed → unl n listed = f + 1 → i < n →
   (∀ j oj, ops[j]? = some oj → j ≠ i → listed.getD j true = false → (∀ e ∈ oj.after, Region.binds .any e = true → e.on ≠ i) → oi.apart ops oj = true) →
   i ∈ Region.ready .any ops listed → YieldsIf P ops R oi v a → R w →
   wpN P ops Q S L f (listed.setIfInBounds i true) (a.put oi.dst v) w → wpN P ops Q S L (f + 1) listed a w := by
 intro f
 induction f with
 | zero =>
  intro listed a w inv hu hin _ hr hy hS H
  refine ⟨(fun h => by rw [h] at hr; cases hr), fun j hj => ?_⟩
  have hui := unB (mem_ready.1 hr).1
  have hjn := ready_head ht inv hin hui hj
  by_cases hji : j = i
  ·subst hji; exact hy.wpOp hi hS ⟨hSi w hS, H⟩
  ·exfalso
   have hsz : ∀ k, k < n → k < listed.size := fun k hk => by
    rw [inv.size]
    rcases ht with rfl | ⟨h, _⟩ <;> omega
   have h1 := unl_set hin (hsz i hin) hui
   have h2 := unl_zero (by omega : unl n (listed.setIfInBounds i true) = 0) j hjn
   rw [getD_set_ne false (Ne.symm hji)] at h2
   rw [unB (mem_ready.1 hj).1] at h2
   cases h2
 | succ f ih =>
  intro listed a w inv hu hin hfree hr hy hS H
  refine ⟨(fun h => by rw [h] at hr; cases hr), fun j hj => ?_⟩
  have hui := unB (mem_ready.1 hr).1
  have hjn := ready_head ht inv hin hui hj
  by_cases hji : j = i
  ·subst hji; exact hy.wpOp hi hS ⟨hSi w hS, H⟩
  ·have h1 := H.2 j (ready_mono hj hji)
   obtain ⟨hjun, oj, hoj, hall⟩ := mem_ready.1 hj
   have hnot : ∀ e ∈ oj.after, Region.binds .any e = true → e.on ≠ i := fun e he hb heq => by
    have h1 := hall e he hb
    rw [heq, hui] at h1
    cases h1
   have h2 := wpOp_putIf hoj (hfree j oj hoj hji hjun hnot) (fun cs b => hsel i oi cs b hi) (fun cs b => hsel j oj cs b hoj) hQ hy h1
   have hfree' : ∀ k ok, ops[k]? = some ok → k ≠ i → (listed.setIfInBounds j true).getD k true = false →
     (∀ e ∈ ok.after, Region.binds .any e = true → e.on ≠ i) → oi.apart ops ok = true := fun k ok hk hki hun hno => by
    refine hfree k ok hk hki ?_ hno
    by_cases hjk : j = k
    ·subst hjk; exact hjun
    ·rw [getD_set_ne true hjk] at hun; exact hun
   have hjs : j < listed.size := by rw [inv.size]; exact (Array.getElem?_eq_some_iff.1 hoj).1
   have hu' := unl_set hjn hjs (unB hjun)
   refine wpOp_mono (fun a' w' h3 => ⟨h3.2.1, ih (listed.setIfInBounds j true) a' w' (inv.set hj hjn) (by omega) hin hfree' (ready_mono hr (Ne.symm hji)) h3.1 (hSR j listed inv hj hjn hji hui w w' hS h3.2.1) ?_⟩) h2
   rw [Array.setIfInBounds_comm _ _ hji]
   exact h3.2.2
end
/-! ### What must have come up ahead of an operation -/
def isLoad : Op → Bool
 | .load .. => true
 | _ => false
def predMask (ops : Array Oper) (j : Nat) : Nat := match ops[j]? with | some o => o.after.toList.foldl (fun m e => bif Region.binds .any e then m ||| 2 ^ e.on else m) 0 | none => 0
def closeM (ops : Array Oper) : Nat → Nat → Nat
 | 0, m => m
 | k + 1, m => closeM ops k (bif m.testBit k then m ||| predMask ops k else m)
def clearB (ops : Array Oper) (n i : Nat) : Bool :=
 (fun m => (List.range n).all fun k => m.testBit k || Nat.beq k i || (match ops[k]? with | some o => !isLoad o.op | none => true)) (closeM ops n (predMask ops i))
def clB (T : Tab) (ops : Array Oper) (n i : Nat) : Bool := (match ops[i]? with | some o => isPure T o.op | none => false) || clearB ops n i
theorem predMask_spec {ops : Array Oper} {n j k : Nat} {listed : Array Bool} (inv : Inv ops n listed) (hj : listed.getD j false = true ∨ j ∈ Region.ready .any ops listed) (h : (predMask ops j).testBit k = true) : listed.getD k false = true := by
 unfold predMask at h
 split at h
 case h_2 => simp at h
 rename_i o ho
 have hall : ∀ e ∈ o.after.toList, Region.binds .any e = true → listed.getD e.on false = true := fun e he hb => by
  rcases hj with hj | hj
  ·exact inv.down j o ho hj e (by simpa using he) hb
  ·obtain ⟨_, o', ho', ha⟩ := mem_ready.1 hj
   rw [ho] at ho'; cases ho'
   exact ha e (by simpa using he) hb
 have key : ∀ (l : List _) (m : Nat), (∀ e ∈ l, Region.binds .any e = true → listed.getD e.on false = true) → (l.foldl (fun m e => bif Region.binds .any e then m ||| 2 ^ e.on else m) m).testBit k = true → m.testBit k = true ∨ listed.getD k false = true := by
  intro l
  induction l with
  | nil => intro m _ h; exact .inl h
  | cons e l ih =>
   intro m hl h
   rw [List.foldl_cons] at h
   rcases ih _ (fun e' he' => hl e' (List.mem_cons_of_mem _ he')) h with h | h
   ·cases hb : Region.binds .any e with
    | false => rw [hb] at h; exact .inl h
    | true =>
     rw [hb] at h
     simp only [cond_true, Nat.testBit_or, Nat.testBit_two_pow, Bool.or_eq_true, decide_eq_true_eq] at h
     rcases h with h | h
     ·exact .inl h
     ·right; rw [← h]; exact hl e List.mem_cons_self hb
   ·exact .inr h
 rcases key _ _ hall h with h | h
 ·simp at h
 ·exact h
theorem closeM_spec {ops : Array Oper} {n : Nat} {listed : Array Bool} (inv : Inv ops n listed) : ∀ (k m : Nat), (∀ i, m.testBit i = true → listed.getD i false = true) → ∀ i, (closeM ops k m).testBit i = true → listed.getD i false = true
 | 0, m, h, i, hi => h i hi
 | k + 1, m, h, i, hi => by
  unfold closeM at hi
  refine closeM_spec inv k _ (fun j hj => ?_) i hi
  cases hb : m.testBit k with
  | false => rw [hb] at hj; exact h j hj
  | true =>
   rw [hb] at hj
   simp only [cond_true, Nat.testBit_or, Bool.or_eq_true] at hj
   rcases hj with hj | hj
   ·exact h j hj
   ·exact predMask_spec inv (.inl (h k hb)) hj
theorem clearB_spec {ops : Array Oper} {n i k : Nat} {o : Oper} {listed : Array Bool} (h : clearB ops n i = true) (inv : Inv ops n listed) (hi : i ∈ Region.ready .any ops listed) (hk : k < n) (hki : k ≠ i) (ho : ops[k]? = some o) (hl : isLoad o.op = true) : listed.getD k false = true := by
 unfold clearB at h
 have h1 := List.all_eq_true.1 h k (List.mem_range.2 hk)
 simp only [ho, hl, Bool.not_true, Bool.or_false, Bool.or_eq_true] at h1
 rcases h1 with h1 | h1
 ·exact closeM_spec inv n _ (fun j hj => predMask_spec inv (.inr hi) hj) k h1
 ·exact absurd (Nat.eq_of_beq_eq_true h1) hki
theorem pureV_const {T : Tab} {op : Op} {e : Env} {w w' : World} {F : Value → Prop} (h : isLoad op = false) (hp : pureV T op e w F) : pureV T op e w' F := by
 cases op with
 | load t x => cases h
 | slice t x lo hi mx => cases mx <;> exact hp
 | call c =>
  obtain ⟨callee, xs, ts⟩ := c
  cases callee with
  | builtin b => cases b <;> exact hp
  | _ => exact hp
 | _ => exact hp
end Go.V
