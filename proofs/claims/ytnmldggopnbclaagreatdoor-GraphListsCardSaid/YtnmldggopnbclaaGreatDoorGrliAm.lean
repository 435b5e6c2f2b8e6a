/- A part of the proof: plain forms of functions and laws about them. -/
import Derived.Test.YtnmldggopnbclaaGreatDoorGrliAl
namespace Go.V
open Go.RowKit (Below)
def symB : Nat := 9223372036854775808
structure Rn where
 blk : Nat → Nat
 off : Nat → Nat
 cap : Nat → Nat
 /-- the tokens, the capacity symbols that have been given -/
 dom : Nat → Prop
 cdom : Nat → Prop
def Rn.oD (ρ : Rn) (o : Option Addr) : Prop := ∀ p, o = some p → ρ.dom p.block
def Rn.cD (ρ : Rn) (c : Nat) : Prop := Nat.blt c symB = true ∨ ρ.cdom (c / 4294967296)
theorem Rn.oD_none (ρ : Rn) : ρ.oD none := fun p h => by cases h
theorem add_block (p : Addr) (i : Nat) : (p.add i).block = p.block := by unfold Addr.add; split <;> rfl
theorem Rn.oD_add {ρ : Rn} {p : Addr} (h : ρ.oD (some p)) (i : Nat) : ρ.oD (some (p.add i)) := fun q hq => by cases hq; rw [add_block]; exact h p rfl
theorem Rn.oD_map {ρ : Rn} {o : Option Addr} (h : ρ.oD o) (i : Nat) : ρ.oD (o.map (·.add i)) := by
 cases o with
 | none => exact ρ.oD_none
 | some p => exact Rn.oD_add h i
def Rn.c (ρ : Rn) (c : Nat) : Nat := bif Nat.blt c symB then c else ρ.cap (c / 4294967296) - c % 4294967296
theorem Rn.c_lit (ρ : Rn) {c : Nat} (h : Nat.blt c symB = true) : ρ.c c = c := by unfold Rn.c; rw [h, cond_true]
def subC (c l : Nat) : Option Nat := if Nat.blt c symB = true then some (c - l) else if c % 4294967296 + l < 4294967296 then some (c + l) else none
theorem subC_cD {ρ : Rn} {c l c' : Nat} (h : subC c l = some c') (k : ρ.cD c) : ρ.cD c' := by
 unfold subC at h
 split at h
 ·rename_i hb
  cases h
  have h1 : c < symB := Nat.le_of_ble_eq_true hb
  exact .inl (Nat.ble_eq_true_of_le (by omega))
 ·rename_i hb
  split at h
  ·cases h
   rcases k with k | k
   ·exact absurd k hb
   ·right
    have e1 : (c + l) / 4294967296 = c / 4294967296 := by omega
    rw [e1]; exact k
  ·cases h
theorem subC_ok (ρ : Rn) {c l c' : Nat} (h : subC c l = some c') : ρ.c c' = ρ.c c - l := by
 unfold subC at h
 split at h
 ·rename_i hb
  cases h
  have h1 : c < symB := Nat.le_of_ble_eq_true hb
  have h2 : Nat.blt (c - l) symB = true := Nat.ble_eq_true_of_le (by omega)
  rw [ρ.c_lit hb, ρ.c_lit h2]
 ·rename_i hb
  split at h
  ·cases h
   have h1 : ¬ c < symB := fun hh => hb (Nat.ble_eq_true_of_le hh)
   have h2 : Nat.blt (c + l) symB = false := by
    cases e : Nat.blt (c + l) symB
    ·rfl
    ·have := Nat.le_of_ble_eq_true e; omega
   have h3 : Nat.blt c symB = false := by
    cases e : Nat.blt c symB
    ·rfl
    ·exact absurd e hb
   unfold Rn.c
   rw [h2, h3]
   simp only [cond_false]
   have e1 : (c + l) / 4294967296 = c / 4294967296 := by omega
   have e2 : (c + l) % 4294967296 = c % 4294967296 + l := by omega
   rw [e1, e2]; omega
  ·cases h
def emp : Addr := ⟨0, 0, some 0⟩
def Rn.a (ρ : Rn) (p : Addr) : Addr := ⟨ρ.blk p.block, ρ.off p.block + p.off, p.spot⟩
theorem Rn.a_add (ρ : Rn) (p : Addr) (i : Nat) : (ρ.a p).add i = ρ.a (p.add i) := by
 unfold Addr.add; split
 ·rfl
 ·simp [Rn.a, Nat.add_assoc]
def bigT : Nat := 4611686018427387904
inductive VR (ρ : Rn) : Value → Value → Prop
 | bool (b : Bool) : VR ρ (.bool b) (.bool b)
 | int (k : IntKind) (n : Int) : VR ρ (.int k n) (.int k n)
 | string (s : ByteArray) : VR ρ (.string s) (.string s)
 | pointer (o : Option Addr) : ρ.oD o → VR ρ (.pointer o) (.pointer (o.map ρ.a))
 | slice (o : Option Addr) (l c : Nat) : l ≤ ρ.c c → ρ.oD o → ρ.cD c → VR ρ (.slice o l c) (.slice (o.map ρ.a) l (ρ.c c))
 | empty (a : Addr) (c : Nat) : VR ρ (.slice (some emp) 0 0) (.slice (some a) 0 c)
 /-- what lies behind the last element: room of that capacity, or none, and then the place is not known -/
 | tail (t o c : Nat) (a : Addr) : (ρ.c c = 0 ∨ a = ρ.a ⟨t, o, none⟩) → ρ.dom t → ρ.cD c → VR ρ (.slice (some ⟨t + bigT, o, some 1⟩) 0 c) (.slice (some a) 0 (ρ.c c))
 | map (o : Option Nat) : (∀ t, o = some t → ρ.dom t) → VR ρ (.map o) (.map (o.map ρ.blk))
 | func (f : Fn) (xs ys : Array Value) (xs' ys' : Array Value) : xs.size = xs'.size → ys.size = ys'.size → (∀ (i : Nat) (u v : Value), xs[i]? = some u → xs'[i]? = some v → VR ρ u v) → (∀ (i : Nat) (u v : Value), ys[i]? = some u → ys'[i]? = some v → VR ρ u v) → VR ρ (.func f xs ys) (.func f xs' ys')
 | nilFunc : VR ρ .nilFunc .nilFunc
 | nilIface : VR ρ .nilIface .nilIface
 | iface (t : TypeId) (u v : Value) : VR ρ u v → VR ρ (.iface t u) (.iface t v)
 | agg (xs ys : Array Value) : xs.size = ys.size → (∀ (i : Nat) (u v : Value), xs[i]? = some u → ys[i]? = some v → VR ρ u v) → VR ρ (.agg xs) (.agg ys)
 | tuple (xs ys : Array Value) : xs.size = ys.size → (∀ (i : Nat) (u v : Value), xs[i]? = some u → ys[i]? = some v → VR ρ u v) → VR ρ (.tuple xs) (.tuple ys)
structure LR (ρ : Rn) (xs ys : List Value) : Prop where
 len : xs.length = ys.length
 at_ : ∀ (i : Nat) (u v : Value), xs[i]? = some u → ys[i]? = some v → VR ρ u v
section
variable {ρ : Rn}
theorem LR.nil : LR ρ [] [] := ⟨rfl, fun i u v h => by simp at h⟩
theorem LR.cons {x y : Value} {xs ys : List Value} (h : VR ρ x y) (k : LR ρ xs ys) : LR ρ (x :: xs) (y :: ys) := ⟨by simp [k.len], fun i u v h1 h2 => by
 cases i with
 | zero => simp at h1 h2; subst h1; subst h2; exact h
 | succ i => exact k.at_ i u v (by simpa using h1) (by simpa using h2)⟩
theorem LR.get {xs ys : List Value} (h : LR ρ xs ys) {i : Nat} {u : Value} (hu : xs[i]? = some u) : ∃ v, ys[i]? = some v ∧ VR ρ u v := by
 have hi := (List.getElem?_eq_some_iff.1 hu).1
 have e : ys[i]? = some (ys[i]'(by rw [← h.len]; exact hi)) := List.getElem?_eq_getElem _
 exact ⟨_, e, h.at_ i u _ hu e⟩
theorem LR.inv_cons {x : Value} {xs ys : List Value} (h : LR ρ (x :: xs) ys) : ∃ y ys', ys = y :: ys' ∧ VR ρ x y ∧ LR ρ xs ys' := by
 cases ys with
 | nil => have := h.len; simp at this
 | cons y ys => exact ⟨y, ys, rfl, h.at_ 0 x y rfl rfl, ⟨by have := h.len; simpa using this, fun i u v h1 h2 => h.at_ (i + 1) u v (by simpa using h1) (by simpa using h2)⟩⟩
theorem LR.inv_nil {ys : List Value} (h : LR ρ [] ys) : ys = [] := by have := h.len; cases ys <;> simp_all
theorem VR.aggL {xs ys : List Value} (h : LR ρ xs ys) : VR ρ (.agg xs.toArray) (.agg ys.toArray) := .agg _ _ (by simp [h.len]) fun i u v h1 h2 => h.at_ i u v (by simpa using h1) (by simpa using h2)
theorem VR.agg_inv {xs : Array Value} {v : Value} (h : VR ρ (.agg xs) v) : ∃ ys, v = .agg ys ∧ LR ρ xs.toList ys.toList := by
 cases h with
 | agg _ ys h1 h2 => exact ⟨ys, rfl, by simpa using h1, fun i u v a b => h2 i u v (by simpa using a) (by simpa using b)⟩
theorem VR.tuple_inv {xs : Array Value} {v : Value} (h : VR ρ (.tuple xs) v) : ∃ ys, v = .tuple ys ∧ LR ρ xs.toList ys.toList := by
 cases h with
 | tuple _ ys h1 h2 => exact ⟨ys, rfl, by simpa using h1, fun i u v a b => h2 i u v (by simpa using a) (by simpa using b)⟩
theorem VR.tupleL {xs ys : List Value} (h : LR ρ xs ys) : VR ρ (.tuple xs.toArray) (.tuple ys.toArray) := .tuple _ _ (by simp [h.len]) fun i u v h1 h2 => h.at_ i u v (by simpa using h1) (by simpa using h2)
def ER (ρ : Rn) (e e' : Env) : Prop := ∀ t u, get e t = some u → ∃ v, get e' t = some v ∧ VR ρ u v
def plainV : Value → Bool
 | .bool _ | .int .. | .string _ | .nilFunc | .nilIface | .pointer none | .map none => true
 | .slice none l c => Nat.blt c symB && Nat.ble l c
 | .func _ a b => a.isEmpty && b.isEmpty
 | _ => false
theorem VR.plain {u : Value} (h : plainV u = true) : VR ρ u u := by
 cases u <;> simp only [plainV] at h <;> try (cases h; done)
 ·exact .bool _
 ·exact .int _ _
 ·exact .string _
 ·rename_i a; cases a <;> first | (cases h; done) | exact .pointer none ρ.oD_none
 ·rename_i a l c
  cases a <;> first | (cases h; done) | skip
  have h : (Nat.blt c symB && Nat.ble l c) = true := h
  simp only [Bool.and_eq_true] at h
  have e : ρ.c c = c := ρ.c_lit h.1
  have := VR.slice (ρ := ρ) none l c (by rw [e]; exact Nat.le_of_ble_eq_true h.2) ρ.oD_none (.inl h.1)
  rw [e] at this; exact this
 ·rename_i a; cases a <;> first | (cases h; done) | exact .map none (fun t h => by cases h)
 ·rename_i f a b
  simp only [Bool.and_eq_true, Array.isEmpty_iff] at h
  obtain ⟨rfl, rfl⟩ := h
  exact .func _ _ _ _ _ rfl rfl (fun i u v h => by simp at h) (fun i u v h => by simp at h)
 ·exact .nilFunc
 ·exact .nilIface
def evE (e : Env) : Operand → Option Value
 | .tmp t => get e t
 | .const v => match plainV v with | true => some v | false => none
 | .func f => some (.func (.func f) #[] #[])
 | .global _ => none
theorem evE_ok {e e' : Env} (h : ER ρ e e') {x : Operand} {u : Value} (hx : evE e x = some u) : ∃ v, ev e' x = some v ∧ VR ρ u v := by
 cases x with
 | tmp t => exact h t u hx
 | const c =>
  simp only [evE] at hx
  split at hx
  ·cases hx; exact ⟨_, rfl, .plain ‹_›⟩
  ·cases hx
 | func f => cases hx; exact ⟨_, rfl, .plain rfl⟩
 | global g => cases hx
theorem evE_ofV {e e' : Env} (h : ER ρ e e') {x : Operand} {u : Value} (hx : evE e x = some u) {F : Value → Prop} (k : ∀ v, VR ρ u v → F v) : ofV (ev e' x) F := by
 obtain ⟨v, e1, r⟩ := evE_ok h hx; rw [e1]; exact k v r
def isCell : Cell → Value → Bool
 | .int k, .int j _ => decide (k = j)
 | .bool, .bool _ => true
 | .str, .string _ => true
 | .slice, .slice .. => true
 | .ptr, .pointer _ => true
 | .map, .map _ => true
 | .fn, .func (.func _) a b => a.isEmpty && b.isEmpty
 | .clo, .func (.func _) a _ => a.isEmpty
 | .any, _ => true
 | _, _ => false
theorem isCell_ex {c : Cell} {u v : Value} (h : isCell c u = true) (r : VR ρ u v) {F : Value → Prop} (k : F v) : ExC c F := by
 cases r <;> cases c <;> simp only [isCell] at h <;> first | (cases h; done) | exact ⟨_, k⟩ | exact ⟨_, _, _, k⟩ | skip
 ·have := of_decide_eq_true h; subst this; exact ⟨_, k⟩
 ·rename_i f xs ys xs' ys' h1 h2 h3 h4
  cases f <;> first | (cases h; done) | skip
  simp only [Bool.and_eq_true, Array.isEmpty_iff] at h
  obtain ⟨rfl, rfl⟩ := h
  have e1 : xs' = #[] := by apply Array.eq_empty_of_size_eq_zero; simpa using h1.symm
  have e2 : ys' = #[] := by apply Array.eq_empty_of_size_eq_zero; simpa using h2.symm
  subst e1; subst e2
  exact ⟨_, k⟩
 ·rename_i f xs ys xs' ys' h1 h2 h3 h4
  cases f <;> first | (cases h; done) | skip
  simp only [Array.isEmpty_iff] at h
  subst h
  have e1 : xs' = #[] := by apply Array.eq_empty_of_size_eq_zero; simpa using h1.symm
  subst e1
  exact ⟨_, _, k⟩
/-! ### Operators -/
def intE (op : BinOp) (k : IntKind) (x y : Int) : Option Value :=
 match op with
 | .add => some (.int k (k.wrap (x + y)))
 | .sub => some (.int k (k.wrap (x - y)))
 | .mul => some (.int k (k.wrap (x * y)))
 | .quo => if y = 0 then none else some (.int k (k.wrap (x.tdiv y)))
 | .rem => if y = 0 then none else some (.int k (x.tmod y))
 | .and => some (.int k (k.wrap ((BitVec.ofInt k.bits x) &&& (BitVec.ofInt k.bits y)).toNat))
 | .or => some (.int k (k.wrap ((BitVec.ofInt k.bits x) ||| (BitVec.ofInt k.bits y)).toNat))
 | .xor => some (.int k (k.wrap ((BitVec.ofInt k.bits x) ^^^ (BitVec.ofInt k.bits y)).toNat))
 | .andNot => some (.int k (k.wrap ((BitVec.ofInt k.bits x) &&& ~~~(BitVec.ofInt k.bits y)).toNat))
 | .shl => if 0 ≤ y then some (.int k (k.wrap (x * 2 ^ (min y.toNat k.bits)))) else none
 | .shr => if 0 ≤ y then some (.int k (x.fdiv (2 ^ (min y.toNat k.bits)))) else none
 | .eql => some (.bool (x == y))
 | .neq => some (.bool (x != y))
 | .lss => some (.bool (x < y))
 | .leq => some (.bool (x ≤ y))
 | .gtr => some (.bool (x > y))
 | .geq => some (.bool (x ≥ y))
theorem intE_ok {op : BinOp} {k : IntKind} {x y : Int} {u : Value} (h : intE op k x y = some u) {F : Value → Prop} (f : F u) : binInt op k x y F := by
 cases op <;> simp only [intE] at h <;> simp only [binInt] <;> first | (cases h; exact f) | (split at h <;> first | (cases h; done) | (cases h; exact ⟨‹_›, f⟩))
theorem intE_plain {op : BinOp} {k : IntKind} {x y : Int} {u : Value} (h : intE op k x y = some u) : VR ρ u u := by
 cases op <;> simp only [intE] at h <;> first | (cases h; first | exact .int _ _ | exact .bool _) | (split at h <;> first | (cases h; done) | (cases h; exact .int _ _))
def bytesEq : List UInt8 → List UInt8 → Bool
 | [], [] => true
 | x :: xs, y :: ys => Nat.beq x.toNat y.toNat && bytesEq xs ys
 | _, _ => false
theorem bytesEq_iff : ∀ {xs ys : List UInt8}, bytesEq xs ys = true ↔ xs = ys
 | [], [] => by simp [bytesEq]
 | [], _ :: _ => by simp [bytesEq]
 | _ :: _, [] => by simp [bytesEq]
 | x :: xs, y :: ys => by
  simp only [bytesEq, Bool.and_eq_true, bytesEq_iff, List.cons.injEq]
  refine and_congr ⟨fun h => ?_, fun h => by rw [h]; exact Nat.beq_refl _⟩ Iff.rfl
  exact UInt8.toNat_inj.1 (Nat.eq_of_beq_eq_true h)
theorem toList_beq (x y : ByteArray) : (x.toList == y.toList) = bytesEq x.data.toList y.data.toList := by
 rw [Bool.eq_iff_iff, bytesEq_iff, beq_iff_eq, ByteArray.toList_eq, ByteArray.toList_eq]
def strE (op : BinOp) (x y : ByteArray) : Option Value :=
 match op with
 | .add => if ((x.size + y.size : Nat) : Int) ≤ IntKind.i64.max then some (.string (x ++ y)) else none
 | .eql => some (.bool (bytesEq x.data.toList y.data.toList))
 | .neq => some (.bool (!(bytesEq x.data.toList y.data.toList)))
 | .lss => some (.bool (Op.bytesLess x.data.toList y.data.toList))
 | .leq => some (.bool (Op.bytesLess x.data.toList y.data.toList || bytesEq x.data.toList y.data.toList))
 | .gtr => some (.bool (!(Op.bytesLess x.data.toList y.data.toList || bytesEq x.data.toList y.data.toList)))
 | .geq => some (.bool (!Op.bytesLess x.data.toList y.data.toList))
 | _ => none
theorem strE_ok {op : BinOp} {x y : ByteArray} {u : Value} (h : strE op x y = some u) {F : Value → Prop} (f : F u) : binStr op x y F := by
 have e1 := toList_beq x y
 have e2 : x.toList = x.data.toList := ByteArray.toList_eq x
 have e3 : y.toList = y.data.toList := ByteArray.toList_eq y
 cases op <;> simp only [strE] at h <;> simp only [binStr] <;> first | (cases h; done) | (cases h; rw [e1]; exact f) | (cases h; rw [e1, e2, e3]; exact f) | (cases h; rw [e2, e3]; exact f) | (split at h <;> first | (cases h; done) | (cases h; exact ⟨‹_›, f⟩))
theorem strE_plain {op : BinOp} {x y : ByteArray} {u : Value} (h : strE op x y = some u) : VR ρ u u := by
 cases op <;> simp only [strE] at h <;> first | (cases h; done) | (cases h; exact .bool _) | (split at h <;> first | (cases h; done) | (cases h; exact .string _))
theorem isC_plain {c : Cell} {u v : Value} (h : isC c u = true) (r : VR ρ u v) : v = u := by
 cases r <;> cases c <;> simp only [isC] at h <;> first | (cases h; done) | rfl
theorem areC_plain {cs : List Cell} : ∀ {xs ys : List Value}, areC cs xs = true → LR ρ xs ys → ys = xs := by
 induction cs with
 | nil => intro xs ys h r; cases xs with
  | nil => exact r.inv_nil
  | cons => cases h
 | cons c cs ih =>
  intro xs ys h r
  cases xs with
  | nil => cases h
  | cons x xs =>
   obtain ⟨y, ys', rfl, r1, r2⟩ := r.inv_cons
   simp only [areC, Bool.and_eq_true] at h
   rw [isC_plain h.1 r1, ih h.2 r2]
def eqE (T : Tab) (neg c : Bool) (t : Nat) (a b : Value) : Option Value :=
 match T.t t with
 | none => none
 | some i =>
  match i.sh, a, b with
  | .one .bool, .bool x, .bool y => some (.bool (bif neg then !(x == y) else x == y))
  | .one .ptr, .pointer o, .pointer none => some (.bool (bif neg then !o.isNone else o.isNone))
  | .one .slice, .slice o _ _, .slice none _ _ => some (.bool (bif neg then !o.isNone else o.isNone))
  | .one .map, .map o, .map none => some (.bool (bif neg then !o.isNone else o.isNone))
  | .one .any, .nilIface, .nilIface => match c with | true => some (.bool (bif neg then false else true)) | false => none
  | .agg _, .agg xs, .agg ys =>
   match i.eq with
   | some cs => match areC cs xs.toList && areC cs ys.toList with | true => some (.bool (bif neg then !eqL xs.toList ys.toList else eqL xs.toList ys.toList)) | false => none
   | none => none
  | _, _, _ => none
theorem isNone_map {α β : Type} (o : Option α) (f : α → β) : (o.map f).isNone = o.isNone := by cases o <;> rfl
theorem eqE_ok {T : Tab} {neg c : Bool} {t : Nat} {a b a' b' u : Value} (h : eqE T neg c t a b = some u) (ra : VR ρ a a') (rb : VR ρ b b') {F : Value → Prop} (f : F u) : eqK T neg c t a' b' F := by
 unfold eqE at h
 split at h
 ·cases h
 rename_i i hi
 unfold eqK
 rw [hi]
 simp only
 split at h
 ·rename_i hs; cases ra; cases rb; rw [hs]; cases h; exact f
 ·rename_i hs; cases ra; cases rb; rw [hs]; cases h; simp only [Option.map_none, isNone_map]; exact f
 ·rename_i hs
  cases rb
  cases ra
  ·rw [hs]; cases h; simp only [Option.map_none, isNone_map]; exact f
  ·rw [hs]; cases h; exact f
  ·rw [hs]; cases h; exact f
 ·rename_i hs; cases ra; cases rb; rw [hs]; cases h; simp only [Option.map_none, isNone_map]; exact f
 ·rename_i hs; cases ra; cases rb; rw [hs]
  simp only
  split at h
  ·cases h; exact f
  ·cases h
 ·rename_i cs0 xs ys hs
  obtain ⟨xs', rfl, rx⟩ := ra.agg_inv
  obtain ⟨ys', rfl, ry⟩ := rb.agg_inv
  rw [hs]; simp only
  split at h
  ·rename_i cs he
   rw [he]; simp only
   split at h
   ·rename_i hc
    simp only [Bool.and_eq_true] at hc
    have e1 := areC_plain hc.1 rx
    have e2 := areC_plain hc.2 ry
    rw [e1, e2, hc.1, hc.2]
    cases h; exact f
   ·cases h
  ·cases h
 ·cases h
theorem eqE_plain {T : Tab} {neg c : Bool} {t : Nat} {a b u : Value} (h : eqE T neg c t a b = some u) : VR ρ u u := by
 unfold eqE at h
 split at h
 ·cases h
 split at h
 ·cases h; exact .bool _
 ·cases h; exact .bool _
 ·cases h; exact .bool _
 ·cases h; exact .bool _
 ·split at h
  ·cases h; exact .bool _
  ·cases h
 ·split at h
  ·split at h
   ·cases h; exact .bool _
   ·cases h
  ·cases h
 ·cases h
def kOk (op : BinOp) (k k' : IntKind) : Bool := match op with | .shl | .shr => true | _ => decide (k = k')
def binE (T : Tab) (op : BinOp) (c : Bool) (t : Nat) (a b : Value) : Option Value :=
 match a, b with
 | .int k x, .int k' y => match kOk op k k' with | true => intE op k x y | false => none
 | .string x, .string y => strE op x y
 | .bool x, .bool y => match op with | .eql => eqE T false c t (.bool x) (.bool y) | .neq => eqE T true c t (.bool x) (.bool y) | _ => none
 | .pointer x, .pointer y => match op with | .eql => eqE T false c t (.pointer x) (.pointer y) | .neq => eqE T true c t (.pointer x) (.pointer y) | _ => none
 | .slice x l d, .slice y l2 d2 => match op with | .eql => eqE T false c t (.slice x l d) (.slice y l2 d2) | .neq => eqE T true c t (.slice x l d) (.slice y l2 d2) | _ => none
 | .map x, .map y => match op with | .eql => eqE T false c t (.map x) (.map y) | .neq => eqE T true c t (.map x) (.map y) | _ => none
 | .nilIface, .nilIface => match op with | .eql => eqE T false c t .nilIface .nilIface | .neq => eqE T true c t .nilIface .nilIface | _ => none
 | .agg x, .agg y => match op with | .eql => eqE T false c t (.agg x) (.agg y) | .neq => eqE T true c t (.agg x) (.agg y) | _ => none
 | _, _ => none
theorem binE_ok {T : Tab} {op : BinOp} {c : Bool} {t : Nat} {a b a' b' u : Value} (h : binE T op c t a b = some u) (ra : VR ρ a a') (rb : VR ρ b b') {F : Value → Prop} (f : F u) : binK T op c t a' b' F := by
 unfold binE at h
 split at h
 ·cases ra; cases rb
  unfold binK
  split at h
  ·rename_i hk
   cases op <;> simp only [kOk] at hk <;> first | exact intE_ok h f | (simp only [hk]; exact intE_ok h f)
  ·cases h
 ·cases ra; cases rb; exact strE_ok h f
 ·split at h <;> first | (cases h; done) | (have k := eqE_ok h ra rb f; cases ra <;> cases rb <;> exact k)
 ·split at h <;> first | (cases h; done) | (have k := eqE_ok h ra rb f; cases ra <;> cases rb <;> exact k)
 ·split at h <;> first | (cases h; done) | (have k := eqE_ok h ra rb f; cases ra <;> cases rb <;> exact k)
 ·split at h <;> first | (cases h; done) | (have k := eqE_ok h ra rb f; cases ra <;> cases rb <;> exact k)
 ·split at h <;> first | (cases h; done) | (have k := eqE_ok h ra rb f; cases ra <;> cases rb <;> exact k)
 ·split at h <;> first | (cases h; done) | (have k := eqE_ok h ra rb f; obtain ⟨xs', rfl, _⟩ := ra.agg_inv; obtain ⟨ys', rfl, _⟩ := rb.agg_inv; exact k)
 ·cases h
theorem binE_plain {T : Tab} {op : BinOp} {c : Bool} {t : Nat} {a b u : Value} (h : binE T op c t a b = some u) : VR ρ u u := by
 unfold binE at h
 split at h
 ·split at h
  ·exact intE_plain h
  ·cases h
 ·exact strE_plain h
 all_goals first | (cases h; done) | (split at h <;> first | (cases h; done) | exact eqE_plain h)
def unE (op : UnOp) (v : Value) : Option Value :=
 match op, v with
 | .neg, .int k n => some (.int k (k.wrap (0 - n)))
 | .not, .bool b => some (.bool !b)
 | .xor, .int k n => some (.int k (k.wrap ((BitVec.ofInt k.bits (if k.signed then -1 else k.max)) ^^^ (BitVec.ofInt k.bits n)).toNat))
 | _, _ => none
theorem unE_ok {op : UnOp} {a a' u : Value} (h : unE op a = some u) (r : VR ρ a a') {F : Value → Prop} (f : ∀ v, VR ρ u v → F v) : unK op a' F := by
 unfold unE at h
 split at h <;> first | (cases h; done) | (cases r; cases h; first | exact f _ (.int _ _) | exact f _ (.bool _))
def convE (T : Tab) (src dst : Nat) (v : Value) : Option Value :=
 match T.t src, T.t dst with
 | some i, some j => match i.sh, j.sh, v with
  | .one (.int _), .one (.int k), .int _ n => some (.int k (k.wrap n))
  | .one .str, .one .str, .string s => some (.string s)
  | _, _, _ => none
 | _, _ => none
theorem convE_ok {T : Tab} {s d : Nat} {a a' u : Value} (h : convE T s d a = some u) (r : VR ρ a a') {F : Value → Prop} (f : ∀ v, VR ρ u v → F v) : convK T s d a' F := by
 unfold convE at h
 split at h
 ·rename_i i j hi hj
  unfold convK
  rw [hi, hj]; simp only
  split at h
  ·rename_i h1 h2; cases r; rw [h1, h2]; cases h; exact f _ (.int _ _)
  ·rename_i h1 h2; cases r; rw [h1, h2]; cases h; exact f _ (.string _)
  ·cases h
 ·cases h
def minE (v u : Value) : Option Value := match v, u with | .int k x, .int _ y => some (.int k (if y < x then y else x)) | _, _ => none
def maxE (v u : Value) : Option Value := match v, u with | .int k x, .int _ y => some (.int k (if y > x then y else x)) | _, _ => none
theorem minE_ok {a b a' b' u : Value} (h : minE a b = some u) (ra : VR ρ a a') (rb : VR ρ b b') {F : Value → Prop} (f : ∀ v, VR ρ u v → F v) : minK a' b' F := by
 unfold minE at h
 split at h
 ·cases ra; cases rb; cases h; exact f _ (.int _ _)
 ·cases h
theorem maxE_ok {a b a' b' u : Value} (h : maxE a b = some u) (ra : VR ρ a a') (rb : VR ρ b b') {F : Value → Prop} (f : ∀ v, VR ρ u v → F v) : maxK a' b' F := by
 unfold maxE at h
 split at h
 ·cases ra; cases rb; cases h; exact f _ (.int _ _)
 ·cases h
/-! ### Places and parts -/
def fldE (T : Tab) (s f : Nat) (x : Value) : Option Value :=
 match T.t s with
 | some inf => match inf.places[f]? with
  | some (o, _, _) => match x with | .pointer (some p) => some (.pointer (some (p.add o))) | _ => none
  | none => none
 | none => none
theorem fldE_ok {T : Tab} {s f : Nat} {x x' u : Value} (h : fldE T s f x = some u) (r : VR ρ x x') {F : Value → Prop} (k : ∀ v, VR ρ u v → F v) : fldK T s f x' F := by
 unfold fldE at h
 split at h
 ·rename_i inf hi
  split at h
  ·rename_i o n b hp
   split at h
   ·rename_i p
    cases r with
    | pointer _ hd =>
    unfold fldK
    rw [hi]; simp only; rw [hp]; simp only
    cases h
    show F (.pointer (some ((ρ.a p).add o)))
    rw [Rn.a_add]
    exact k _ (.pointer (some _) (Rn.oD_add hd _))
   ·cases h
  ·cases h
 ·cases h
def idxE (T : Tab) (t : Nat) (x i : Value) : Option Value :=
 match T.t t, i with
 | some inf, .int _ n => match inf.idx, x with
  | some (none, sz), .slice (some p) len _ => if 0 ≤ n ∧ n < (len : Int) then some (.pointer (some (p.add (n.toNat * sz)))) else none
  | some (some len, sz), .pointer (some p) => if 0 ≤ n ∧ n < (len : Int) then some (.pointer (some (p.add (n.toNat * sz)))) else none
  | _, _ => none
 | _, _ => none
theorem idxE_ok {T : Tab} {t : Nat} {x i x' i' u : Value} (h : idxE T t x i = some u) (rx : VR ρ x x') (ri : VR ρ i i') {F : Value → Prop} (k : ∀ v, VR ρ u v → F v) : idxK T t x' i' F := by
 unfold idxE at h
 split at h
 ·rename_i inf kk n hi
  cases ri
  unfold idxK
  rw [hi]; simp only
  split at h
  ·rename_i sz p len c hx
   cases rx with
   | slice _ _ _ _ hd _ =>
    rw [hx]; simp only
    split at h
    ·rename_i hc
     cases h
     refine ⟨hc, ?_⟩
     show F (.pointer (some ((ρ.a p).add _)))
     rw [Rn.a_add]; exact k _ (.pointer (some _) (Rn.oD_add hd _))
    ·cases h
   | empty a c =>
    split at h
    ·rename_i hc; exact absurd hc.2 (by omega)
    ·cases h
   | tail =>
    split at h
    ·rename_i hc; exact absurd hc.2 (by omega)
    ·cases h
  ·rename_i len sz p hx
   cases rx with
   | pointer _ hd =>
   rw [hx]; simp only
   split at h
   ·rename_i hc
    cases h
    refine ⟨hc, ?_⟩
    show F (.pointer (some ((ρ.a p).add _)))
    rw [Rn.a_add]; exact k _ (.pointer (some _) (Rn.oD_add hd _))
   ·cases h
  ·cases h
 ·cases h
end
end Go.V
