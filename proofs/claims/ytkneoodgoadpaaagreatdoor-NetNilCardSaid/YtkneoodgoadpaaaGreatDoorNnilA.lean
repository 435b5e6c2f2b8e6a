/- A part of the proof: plain forms of functions and laws about them. -/
import Derived.WalkKit
import Derived.Below
import Derived.Orders
import Derived.OrdersHeld
namespace Go.V
open Go.RowKit (Below)
/-! ### Shapes -/
inductive Cell where
  | int (k : IntKind) | bool | str | slice | ptr | map | fn | clo | any
inductive Sh where
  | one (c : Cell) | agg (cs : List Cell) | row (n : Nat)
def ExC : Cell → (Value → Prop) → Prop
  | .int k, F => ∃ n : Int, F (.int k n)
  | .bool, F => ∃ b : Bool, F (.bool b)
  | .str, F => ∃ s : ByteArray, F (.string s)
  | .slice, F => ∃ (a : Option Addr) (l c : Nat), F (.slice a l c)
  | .ptr, F => ∃ a : Option Addr, F (.pointer a)
  | .map, F => ∃ r : Option Nat, F (.map r)
  | .fn, F => ∃ f : FuncId, F (.func (.func f) #[] #[])
  | .clo, F => ∃ (f : FuncId) (cs : Array Value), F (.func (.func f) #[] cs)
  | .any, F => ∃ v : Value, F v
def ExCs : List Cell → (List Value → Prop) → Prop
  | [], F => F []
  | c :: cs, F => ExC c fun v => ExCs cs fun vs => F (v :: vs)
def ExSh : Sh → (Value → Prop) → Prop
  | .one c, F => ExC c F
  | .agg cs, F => ExCs cs fun vs => F (.agg vs.toArray)
  | .row _, F => ∃ vs : Array Value, F (.agg vs)
def ExShs : List Sh → (List Value → Prop) → Prop
  | [], F => F []
  | c :: cs, F => ExSh c fun v => ExShs cs fun vs => F (v :: vs)
def ExR : List Sh → (Value → Prop) → Prop
  | [s], F => ExSh s F
  | ss, F => ExShs ss fun vs => F (.tuple vs.toArray)
theorem ExC_some {c : Cell} {F : Value → Prop} (h : ExC c F) : ∃ v, F v := by
  cases c <;> simp only [ExC] at h
  case slice => obtain ⟨a, l, c, h⟩ := h; exact ⟨_, h⟩
  case clo => obtain ⟨f, cs, h⟩ := h; exact ⟨_, h⟩
  all_goals (obtain ⟨x, h⟩ := h; exact ⟨_, h⟩)
theorem ExCs_some {cs : List Cell} : ∀ {F : List Value → Prop}, ExCs cs F → ∃ vs, vs.length = cs.length ∧ F vs := by
  induction cs with
  | nil => intro F h; exact ⟨[], rfl, h⟩
  | cons c cs ih =>
    intro F h
    obtain ⟨v, h⟩ := ExC_some h
    obtain ⟨vs, hl, h⟩ := ih h
    exact ⟨v :: vs, by simp [hl], h⟩
theorem ExSh_some {s : Sh} {F : Value → Prop} (h : ExSh s F) : ∃ v, F v := by
  cases s with
  | one c => exact ExC_some h
  | agg cs => obtain ⟨vs, _, h⟩ := ExCs_some h; exact ⟨_, h⟩
  | row n => obtain ⟨vs, h⟩ := h; exact ⟨_, h⟩
theorem ExShs_some {ss : List Sh} : ∀ {F : List Value → Prop}, ExShs ss F → ∃ vs, F vs := by
  induction ss with
  | nil => intro F h; exact ⟨[], h⟩
  | cons s ss ih =>
    intro F h
    obtain ⟨v, h⟩ := ExSh_some h
    obtain ⟨vs, h⟩ := ih h
    exact ⟨_, h⟩
theorem ExR_some {ss : List Sh} {F : Value → Prop} (h : ExR ss F) : ∃ v, F v := by
  match ss, h with
  | [], h => obtain ⟨vs, h⟩ := ExShs_some h; exact ⟨_, h⟩
  | [s], h => exact ExSh_some h
  | _ :: _ :: _, h => obtain ⟨vs, h⟩ := ExShs_some h; exact ⟨_, h⟩
/-! ### Slots -/
abbrev Env := List (Nat × Value)
def get : Env → Nat → Option Value
  | [], _ => none
  | (k, v) :: r, t => bif Nat.beq k t then some v else get r t
def setD (e : Env) (d : Option Nat) (v : Value) : Env := match d with | some t => (t, v) :: e | none => e
def ofV : Option Value → (Value → Prop) → Prop
  | some v, F => F v
  | none, _ => False
theorem ofV_some {o : Option Value} {F : Value → Prop} (h : ofV o F) : ∃ v, o = some v ∧ F v := by
  cases o with
  | none => exact h.elim
  | some v => exact ⟨v, rfl, h⟩
structure Ag (N : Nat) (a : Act) (e : Env) : Prop where
  size : a.tmps.size = N
  at_ : ∀ t v, get e t = some v → a.tmps.getD t undef = v
def ev (e : Env) : Operand → Option Value
  | .tmp t => get e t
  | .const v => some v
  | .global g => some (.pointer (some ⟨g, 0, none⟩))
  | .func f => some (.func (.func f) #[] #[])
theorem ev_eval {N : Nat} {a : Act} {e : Env} (h : Ag N a e) {x : Operand} {v : Value} (hx : ev e x = some v) : a.eval x = v := by
  cases x with
  | tmp t => exact h.at_ t v hx
  | const u => simpa [ev, Act.eval] using hx
  | global g => simpa [ev, Act.eval] using hx
  | func f => simpa [ev, Act.eval] using hx
def evs (e : Env) : List Operand → (List Value → Prop) → Prop
  | [], F => F []
  | x :: xs, F => ofV (ev e x) fun v => evs e xs fun vs => F (v :: vs)
theorem evs_eval {N : Nat} {a : Act} {e : Env} (h : Ag N a e) : ∀ {xs : List Operand} {F : List Value → Prop}, evs e xs F → F (xs.map a.eval)
  | [], _, hF => hF
  | x :: xs, F, hF => by
    obtain ⟨v, hx, hF⟩ := ofV_some hF
    have := evs_eval h hF
    simpa [ev_eval h hx] using this
theorem get_cons_same (e : Env) (t : Nat) (v : Value) : get ((t, v) :: e) t = some v := by simp [get]
theorem get_cons_ne {e : Env} {t d : Nat} {v : Value} (h : d ≠ t) : get ((d, v) :: e) t = get e t := by
  have : Nat.beq d t = false := by
    cases hb : Nat.beq d t with
    | true => exact absurd (Nat.eq_of_beq_eq_true hb) h
    | false => rfl
  simp [get, this]
theorem Ag.put {N : Nat} {a : Act} {e : Env} (h : Ag N a e) (d : Option Nat) (v : Value) (hd : ∀ t, d = some t → t < N) : Ag N (a.put d v) (setD e d v) := by
  cases d with
  | none => exact h
  | some t =>
    have ht := hd t rfl
    refine ⟨by simp [Act.put, h.size], fun u x hx => ?_⟩
    by_cases htu : t = u
    · subst htu
      simp only [setD, get_cons_same, Option.some.injEq] at hx
      subst hx
      simp [Act.put, h.size, ht]
    · rw [setD, get_cons_ne htu] at hx
      have := h.at_ u x hx
      simpa [Act.put, Array.getElem?_setIfInBounds_ne htu] using this
/-! ### Tables of types and functions -/
structure TInfo where
  sh : Sh
  /-- of a slice type: (none, cells of an element); of an array type: (its length, cells of an element) -/
  idx : Option (Option Nat × Nat) := none
  /-- of a struct type: offset and cells of each field, and whether it is a struct or an array itself -/
  places : List (Nat × Nat × Bool) := []
  /-- the cells of its zero value, where they are few -/
  zero : Option (List Value) := none
  /-- the flat form of values that '==' compares cell by cell -/
  eq : Option (List Cell) := none
  /-- an element's type, of a slice -/
  elem : Nat := 0
  bytes : Nat := 0
structure Tab where
  ty : List (Nat × TInfo)
  fn : List (Nat × List Sh)
  /-- tuples (what an operation with several values leaves) -/
  tup : List (Nat × List Sh) := []
def look {α : Type} : List (Nat × α) → Nat → Option α
  | [], _ => none
  | (k, v) :: r, t => bif Nat.beq k t then some v else look r t
def Tab.t (T : Tab) (t : Nat) : Option TInfo := look T.ty t
theorem look_mem {α : Type} {l : List (Nat × α)} {t : Nat} {v : α} (h : look l t = some v) : (t, v) ∈ l := by
  induction l with
  | nil => cases h
  | cons x r ih =>
    obtain ⟨k, u⟩ := x
    cases hb : Nat.beq k t with
    | true =>
      simp only [look, hb, cond_true, Option.some.injEq] at h
      have : k = t := Nat.eq_of_beq_eq_true hb
      subst this; subst h; exact List.mem_cons_self
    | false =>
      simp only [look, hb, cond_false] at h
      exact List.mem_cons_of_mem _ (ih h)
def cellOk : TypeDesc → Cell → Bool
  | .bool, .bool => true
  | .int k, .int k' => k == k'
  | .string, .str => true
  | .slice _, .slice => true
  | .pointer _, .ptr => true
  | .map _ _, .map => true
  | .func .., .any | .func .., .fn | .func .., .clo | .interface _, .any => true
  | _, _ => false
def zeroOf (P : Program) (t : Nat) : Array Value := match (P.info? t).bind (·.zero) with | some v => v.cells | none => #[]
def valEq : Value → Value → Bool
  | .int j a, .int k b => j == k && a == b
  | .bool a, .bool b => a == b
  | .string a, .string b => a.toList == b.toList
  | .slice none a b, .slice none c d => a == c && b == d
  | .pointer none, .pointer none => true
  | .map none, .map none => true
  | .nilFunc, .nilFunc => true
  | .nilIface, .nilIface => true
  | _, _ => false
def valsEq : List Value → List Value → Bool
  | [], [] => true
  | a :: x, b :: y => valEq a b && valsEq x y
  | _, _ => false
def shOk (P : Program) (t : Nat) (i : TInfo) : Bool :=
  match P.underlying t, P.info? t, i.sh with
  | some (.struct _), some inf, .agg cs | some (.array _ _), some inf, .agg cs => Nat.beq inf.size cs.length && inf.zero.isSome
  | some (.struct _), some inf, .row n | some (.array _ _), some inf, .row n => Nat.beq inf.size n && inf.zero.isSome
  | some (.struct _), _, _ | some (.array _ _), _, _ => false
  | some d, some inf, .one c => cellOk d c && inf.zero.isSome && Nat.beq inf.size 1
  | _, _, _ => false
def idxOk (P : Program) (t : Nat) (i : TInfo) : Bool :=
  match i.idx with
  | none => true
  | some (none, sz) => match P.underlying t with | some (.slice e) => Nat.beq e i.elem && (match P.info? e with | some j => Nat.beq j.size sz | none => false) | _ => false
  | some (some n, sz) => match P.underlying t with | some (.array m e) => Nat.beq m n && Nat.ble 2 n && (match P.info? e with | some j => Nat.beq j.size sz | none => false) | _ => false
def aggOk (P : Program) (t : Nat) (b : Bool) : Bool := match P.underlying t with | some (.struct _) | some (.array _ _) => b | some _ => !b | none => false
def placesOk (P : Program) : List Field → List (Nat × Nat × Bool) → Bool
  | _, [] => true
  | f :: fs, (o, s, b) :: r => Nat.beq f.offset o && (match P.info? f.type with | some j => Nat.beq j.size s && Nat.ble 1 s | none => false) && aggOk P f.type b && placesOk P fs r
  | [], _ :: _ => false
def fldOk (P : Program) (t : Nat) (i : TInfo) : Bool :=
  match i.places with
  | [] => true
  | l => match P.underlying t with | some (.struct fs) => Nat.beq fs.size l.length && placesOk P fs.toList l | _ => false
def zeroOk (P : Program) (t : Nat) (i : TInfo) : Bool :=
  match i.zero with
  | none => true
  | some l => valsEq (zeroOf P t).toList l
def bytesOk (P : Program) (t : Nat) (i : TInfo) : Bool := match P.info? t with | some j => Nat.beq j.bytes i.bytes | none => false
def tyOk (P : Program) (x : Nat × TInfo) : Bool := shOk P x.1 x.2 && idxOk P x.1 x.2 && fldOk P x.1 x.2 && bytesOk P x.1 x.2
def eq1 : Value → Value → Bool
  | .int _ a, .int _ b => a == b
  | .bool a, .bool b => a == b
  | .string a, .string b => a == b
  | _, _ => false
def eqL : List Value → List Value → Bool
  | a :: x, b :: y => eq1 a b && eqL x y
  | _, _ => true
def isC : Cell → Value → Bool
  | .int k, .int j _ => k == j
  | .bool, .bool _ => true
  | .str, .string _ => true
  | _, _ => false
def areC : List Cell → List Value → Bool
  | [], [] => true
  | c :: cs, v :: vs => isC c v && areC cs vs
  | _, _ => false
structure Tab.Ok (P : Program) (T : Tab) : Prop where
  ty : T.ty.all (tyOk P) = true
  zero : ∀ t i l, T.t t = some i → i.zero = some l → zeroOf P t = l.toArray
  eq : ∀ t i cs, T.t t = some i → i.eq = some cs → ∀ xs ys w, areC cs xs = true → areC cs ys = true →
    (do eqGuard .eql t (.tmp 0) (.tmp 0) (.agg xs.toArray) (.agg ys.toArray); binOp .eql t (.agg xs.toArray) (.agg ys.toArray) : Sem Value).run P w = .ok (.bool (eqL xs ys)) w ∧
    (do eqGuard .neq t (.tmp 0) (.tmp 0) (.agg xs.toArray) (.agg ys.toArray); binOp .neq t (.agg xs.toArray) (.agg ys.toArray) : Sem Value).run P w = .ok (.bool (!eqL xs ys)) w
  fn : ∀ f ss, look T.fn f = some ss → ∀ args w, (callFunc f args).run P w = .ok (.enter f args) w
theorem Tab.Ok.tyOk {P : Program} {T : Tab} (h : T.Ok P) {t : Nat} {i : TInfo} (ht : T.t t = some i) : shOk P t i = true ∧ idxOk P t i = true ∧ fldOk P t i = true ∧ bytesOk P t i = true := by
  have h1 := List.all_eq_true.1 h.ty _ (look_mem ht)
  simp only [V.tyOk, Bool.and_eq_true] at h1
  exact ⟨h1.1.1.1, h1.1.1.2, h1.1.2, h1.2⟩
end Go.V

namespace Go.V
open Go.RowKit (Below)
def BoolK (b : Bool) (X Y : Prop) : Prop := match b with | true => X | false => Y
theorem BoolK_iff {b : Bool} {X Y : Prop} : BoolK b X Y ↔ (b = true → X) ∧ (b = false → Y) := by cases b <;> simp [BoolK]
theorem BoolK.mk {b : Bool} {X Y : Prop} (h1 : b = true → X) (h2 : b = false → Y) : BoolK b X Y := BoolK_iff.2 ⟨h1, h2⟩
@[reducible] def AddrK (o : Option Addr) (F : Addr → Prop) : Prop := match o with | some a => F a | none => False
def boolOf : Value → (Bool → Prop) → Prop | .bool b, F => F b | _, _ => False
def ptrOf : Value → (Addr → Prop) → Prop | .pointer o, F => AddrK o F | _, _ => False
def aggOf : Value → (Array Value → Prop) → Prop | .agg cs, F => F cs | _, _ => False
theorem boolOf_some {v : Value} {F : Bool → Prop} (h : boolOf v F) : ∃ b, v = .bool b ∧ F b := by
  cases v <;> first | exact h.elim | exact ⟨_, rfl, h⟩
theorem AddrK_some {o : Option Addr} {F : Addr → Prop} (h : AddrK o F) : ∃ p, o = some p ∧ F p := by
  cases o with
  | none => exact h.elim
  | some p => exact ⟨p, rfl, h⟩
theorem ptrOf_some {v : Value} {F : Addr → Prop} (h : ptrOf v F) : ∃ p, v = .pointer (some p) ∧ F p := by
  cases v with
  | pointer o => obtain ⟨p, rfl, hp⟩ := AddrK_some (show AddrK o F from h); exact ⟨p, rfl, hp⟩
  | _ => exact h.elim
theorem aggOf_some {v : Value} {F : Array Value → Prop} (h : aggOf v F) : ∃ cs, v = .agg cs ∧ F cs := by
  cases v <;> first | exact h.elim | exact ⟨_, rfl, h⟩
/-! ### Loads -/
def LdCs : List Cell → World → Addr → Nat → (List Value → Prop) → Prop
  | [], _, _, _, F => F []
  | c :: cs, w, a, i, F => ExC c fun v => w.cell? (a.add i) = some v ∧ LdCs cs w a (i + 1) fun vs => F (v :: vs)
def RowAt (w : World) (a : Addr) (vs : Array Value) (n : Nat) : Prop := vs.size = n ∧ ∀ i, i < n → w.cell? (a.add i) = vs[i]?
def ldSh : Sh → World → Addr → (Value → Prop) → Prop
  | .one c, w, a, F => ExC c fun v => w.cell? a = some v ∧ F v
  | .agg cs, w, a, F => LdCs cs w a 0 fun vs => F (.agg vs.toArray)
  | .row n, w, a, F => ∃ vs : Array Value, RowAt w a vs n ∧ F (.agg vs)
theorem LdCs_some {cs : List Cell} {w : World} {a : Addr} : ∀ {i : Nat} {F : List Value → Prop}, LdCs cs w a i F →
    ∃ vs : List Value, vs.length = cs.length ∧ (∀ j v, vs[j]? = some v → w.cell? (a.add (i + j)) = some v) ∧ F vs := by
  induction cs with
  | nil => intro i F h; exact ⟨[], rfl, fun j v hj => by simp at hj, h⟩
  | cons c cs ih =>
    intro i F h
    obtain ⟨v, hv, h⟩ := ExC_some h
    obtain ⟨vs, hl, hc, h⟩ := ih h
    refine ⟨v :: vs, by simp [hl], fun j u hj => ?_, h⟩
    cases j with
    | zero => simp at hj; subst hj; exact hv
    | succ j =>
      simp at hj
      have := hc j u hj
      rw [show i + (j + 1) = i + 1 + j from by omega]
      exact this
def Cel (w w' : World) : Prop := ∀ p v, w.cell? p = some v → w'.cell? p = some v
theorem Cel.refl (w : World) : Cel w w := fun _ _ h => h
theorem Cel.trans {a b c : World} (h : Cel a b) (k : Cel b c) : Cel a c := fun p v hp => k p v (h p v hp)
theorem Below.cel {w w' : World} (h : Below w.heap.size w w') : Cel w w' := fun p v hp => by rw [h.cell (block_lt_of_cell hp)]; exact hp
theorem cell_below {w w' : World} (hB : Cel w w') {p : Addr} {v : Value} (h : w.cell? p = some v) : w'.cell? p = some v := by
  exact hB p v h
theorem run_loadVar_list {P : Program} {t n : Nat} {inf : TypeInfo} (hi : P.info? t = some inf) (hn : inf.size = n)
    (hd : (∃ fs, P.underlying t = some (.struct fs)) ∨ ∃ m e, P.underlying t = some (.array m e)) {w : World} {p : Addr} {vs : List Value} (hl : vs.length = n)
    (hc : ∀ j v, vs[j]? = some v → w.cell? (p.add j) = some v) : (loadVar t p).run P w = .ok (.agg vs.toArray) w := by
  have hag : (isAgg t).run P w = .ok true w := by
    rcases hd with ⟨fs, hd⟩ | ⟨m, e, hd⟩ <;> simp [isAgg, run_underlying hd]
  have hsz : (sizeOf t).run P w = .ok n w := by simp [sizeOf, typeInfo, hi, hn]
  have := run_loadCells_list (P := P) (w := w) p vs hc
  rw [hl] at this
  simp [loadVar, hag, hsz, this]
theorem run_loadVar_one {P : Program} {t : Nat} {d : TypeDesc} (hd : P.underlying t = some d) (hs : ∀ fs, d ≠ .struct fs) (ha : ∀ m e, d ≠ .array m e) {w : World} {p : Addr} {v : Value}
    (hc : w.cell? p = some v) : (loadVar t p).run P w = .ok v w := by
  have hag : (isAgg t).run P w = .ok false w := by
    cases d <;> simp [isAgg, run_underlying hd]
    · exact absurd rfl (ha _ _)
    · exact absurd rfl (hs _)
  simp [loadVar, hag, hc]
theorem shOk_cases {P : Program} {t : Nat} {i : TInfo} (h : shOk P t i = true) :
    (∃ inf d c, P.underlying t = some d ∧ P.info? t = some inf ∧ i.sh = .one c ∧ cellOk d c = true ∧ inf.size = 1 ∧ inf.zero.isSome = true ∧ (∀ fs, d ≠ .struct fs) ∧ (∀ m e, d ≠ .array m e)) ∨
    (∃ inf cs, P.info? t = some inf ∧ i.sh = .agg cs ∧ inf.size = cs.length ∧ inf.zero.isSome = true ∧ ((∃ fs, P.underlying t = some (.struct fs)) ∨ ∃ m e, P.underlying t = some (.array m e))) ∨
    (∃ inf n, P.info? t = some inf ∧ i.sh = .row n ∧ inf.size = n ∧ inf.zero.isSome = true ∧ ((∃ fs, P.underlying t = some (.struct fs)) ∨ ∃ m e, P.underlying t = some (.array m e))) := by
  unfold shOk at h
  split at h
  case h_1 fs inf cs h1 h2 h3 =>
    simp only [Bool.and_eq_true] at h
    exact .inr (.inl ⟨_, cs, h2, h3, Nat.eq_of_beq_eq_true h.1, h.2, .inl ⟨_, h1⟩⟩)
  case h_2 m e inf cs h1 h2 h3 =>
    simp only [Bool.and_eq_true] at h
    exact .inr (.inl ⟨_, cs, h2, h3, Nat.eq_of_beq_eq_true h.1, h.2, .inr ⟨_, _, h1⟩⟩)
  case h_3 fs inf n h1 h2 h3 =>
    simp only [Bool.and_eq_true] at h
    exact .inr (.inr ⟨_, n, h2, h3, Nat.eq_of_beq_eq_true h.1, h.2, .inl ⟨_, h1⟩⟩)
  case h_4 m e inf n h1 h2 h3 =>
    simp only [Bool.and_eq_true] at h
    exact .inr (.inr ⟨_, n, h2, h3, Nat.eq_of_beq_eq_true h.1, h.2, .inr ⟨_, _, h1⟩⟩)
  case h_5 => cases h
  case h_6 => cases h
  case h_7 =>
    rename_i d inf c hs ha h1 h2 h3
    simp only [Bool.and_eq_true] at h
    refine .inl ⟨_, d, c, h1, h2, h3, h.1.1, Nat.eq_of_beq_eq_true h.2, h.1.2, ?_, ?_⟩
    · intro fs hd; exact hs _ hd
    · intro m e hd; exact ha _ _ hd
  case h_8 => cases h
theorem ldSh_run {P : Program} {t : Nat} {i : TInfo} (hsh : shOk P t i = true) {w : World} {p : Addr} {F : Value → Prop} (h : ldSh i.sh w p F) :
    ∃ v, F v ∧ ∀ w', Cel w w' → (loadVar t p).run P w' = .ok v w' := by
  rcases shOk_cases hsh with ⟨inf, d, c, hu, hi, hs, hc, hz, _, h1, h2⟩ | ⟨inf, cs, hi, hs, hz, _, hd⟩ | ⟨inf, n, hi, hs, hz, _, hd⟩
  · rw [hs] at h
    obtain ⟨v, hv, hF⟩ := ExC_some h
    exact ⟨v, hF, fun w' hB => run_loadVar_one hu h1 h2 (cell_below hB hv)⟩
  · rw [hs] at h
    obtain ⟨vs, hl, hc, hF⟩ := LdCs_some h
    exact ⟨_, hF, fun w' hB => run_loadVar_list hi hz hd hl fun j v hj => cell_below hB (by simpa using hc j v hj)⟩
  · rw [hs] at h
    obtain ⟨vs, ⟨hl, hc⟩, hF⟩ := h
    refine ⟨_, hF, fun w' hB => ?_⟩
    have := run_loadVar_list (P := P) (w := w') (p := p) (vs := vs.toList) hi hz hd (by simpa using hl) fun j v hj => by
      have hj' : vs[j]? = some v := by simpa using hj
      have hlt : j < n := by
        have := (Array.getElem?_eq_some_iff.1 hj').1; omega
      exact cell_below hB ((hc j hlt).trans hj')
    simpa using this
/-! ### Operators -/
def binInt (op : BinOp) (k : IntKind) (x y : Int) (F : Value → Prop) : Prop :=
  match op with
  | .add => F (.int k (k.wrap (x + y)))
  | .sub => F (.int k (k.wrap (x - y)))
  | .mul => F (.int k (k.wrap (x * y)))
  | .quo => y ≠ 0 ∧ F (.int k (k.wrap (x.tdiv y)))
  | .rem => y ≠ 0 ∧ F (.int k (x.tmod y))
  | .and => F (.int k (k.wrap ((BitVec.ofInt k.bits x) &&& (BitVec.ofInt k.bits y)).toNat))
  | .or => F (.int k (k.wrap ((BitVec.ofInt k.bits x) ||| (BitVec.ofInt k.bits y)).toNat))
  | .xor => F (.int k (k.wrap ((BitVec.ofInt k.bits x) ^^^ (BitVec.ofInt k.bits y)).toNat))
  | .andNot => F (.int k (k.wrap ((BitVec.ofInt k.bits x) &&& ~~~(BitVec.ofInt k.bits y)).toNat))
  | .shl => 0 ≤ y ∧ F (.int k (k.wrap (x * 2 ^ (min y.toNat k.bits))))
  | .shr => 0 ≤ y ∧ F (.int k (x.fdiv (2 ^ (min y.toNat k.bits))))
  | .eql => F (.bool (x == y))
  | .neq => F (.bool (x != y))
  | .lss => F (.bool (x < y))
  | .leq => F (.bool (x ≤ y))
  | .gtr => F (.bool (x > y))
  | .geq => F (.bool (x ≥ y))
def binStr (op : BinOp) (x y : ByteArray) (F : Value → Prop) : Prop :=
  match op with
  | .add => ((x.size + y.size : Nat) : Int) ≤ IntKind.i64.max ∧ F (.string (x ++ y))
  | .eql => F (.bool (x.toList == y.toList))
  | .neq => F (.bool (!(x.toList == y.toList)))
  | .lss => F (.bool (Op.bytesLess x.toList y.toList))
  | .leq => F (.bool (Op.bytesLess x.toList y.toList || x.toList == y.toList))
  | .gtr => F (.bool (!(Op.bytesLess x.toList y.toList || x.toList == y.toList)))
  | .geq => F (.bool (!Op.bytesLess x.toList y.toList))
  | _ => False
def eqK (T : Tab) (neg : Bool) (t : Nat) (a b : Value) (F : Value → Prop) : Prop :=
  match T.t t with
  | none => False
  | some i =>
    match i.sh, a, b with
    | .one .bool, .bool x, .bool y => F (.bool (bif neg then !(x == y) else x == y))
    | .one .ptr, .pointer o, .pointer none => F (.bool (bif neg then !o.isNone else o.isNone))
    | .one .slice, .slice o _ _, .slice none _ _ => F (.bool (bif neg then !o.isNone else o.isNone))
    | .one .map, .map o, .map none => F (.bool (bif neg then !o.isNone else o.isNone))
    | .agg _, .agg xs, .agg ys =>
      match i.eq with
      | some cs => match areC cs xs.toList && areC cs ys.toList with | true => F (.bool (bif neg then !eqL xs.toList ys.toList else eqL xs.toList ys.toList)) | false => False
      | none => False
    | _, _, _ => False
def binK (T : Tab) (op : BinOp) (t : Nat) (a b : Value) (F : Value → Prop) : Prop :=
  match a, b with
  | .int k x, .int k' y => match (match op with | .shl | .shr => true | _ => decide (k = k')) with | true => binInt op k x y F | false => False
  | .string x, .string y => binStr op x y F
  | a, b => match op with | .eql => eqK T false t a b F | .neq => eqK T true t a b F | _ => False
def unK (op : UnOp) (v : Value) (F : Value → Prop) : Prop :=
  match op, v with
  | .neg, .int k n => F (.int k (k.wrap (0 - n)))
  | .not, .bool b => F (.bool !b)
  | .xor, .int k n => F (.int k (k.wrap ((BitVec.ofInt k.bits (if k.signed then -1 else k.max)) ^^^ (BitVec.ofInt k.bits n)).toNat))
  | _, _ => False
def convK (T : Tab) (src dst : Nat) (v : Value) (F : Value → Prop) : Prop :=
  match T.t src, T.t dst with
  | some i, some j => match i.sh, j.sh, v with
    | .one (.int _), .one (.int k), .int _ n => F (.int k (k.wrap n))
    | .one .str, .one .str, .string s => F (.string s)
    | _, _, _ => False
  | _, _ => False
def minK (v u : Value) (F : Value → Prop) : Prop := match v, u with | .int k x, .int _ y => F (.int k (if y < x then y else x)) | _, _ => False
def maxK (v u : Value) (F : Value → Prop) : Prop := match v, u with | .int k x, .int _ y => F (.int k (if y > x then y else x)) | _, _ => False
section
variable {P : Program} {T : Tab} (hT : T.Ok P)
theorem run_equalIn_ptr {t : Nat} {e : TypeId} (hu : P.underlying t = some (.pointer e)) (d : Nat) (o : Option Addr) (w : World) :
    (Op.equalIn (d + 1) t (.pointer o) (.pointer none)).run P w = .ok o.isNone w := by
  cases o <;> simp [Op.equalIn, run_underlying hu]
theorem run_equalIn_slc {t : Nat} {e : TypeId} (hu : P.underlying t = some (.slice e)) (d : Nat) (o : Option Addr) (n c n' c' : Nat) (w : World) :
    (Op.equalIn (d + 1) t (.slice o n c) (.slice none n' c')).run P w = .ok o.isNone w := by
  cases o <;> simp [Op.equalIn, run_underlying hu]
theorem run_equalIn_mp {t : Nat} {k e : TypeId} (hu : P.underlying t = some (.map k e)) (d : Nat) (o : Option Nat) (w : World) :
    (Op.equalIn (d + 1) t (.map o) (.map none)).run P w = .ok o.isNone w := by
  cases o <;> simp [Op.equalIn, run_underlying hu]
theorem equal_def (t : Nat) (x y : Value) : Op.equal t x y = Op.equalIn (9999 + 1) t x y := rfl
theorem binInt_run {op : BinOp} {k k' : IntKind} {x y : Int} {t : Nat} {ox oy : Operand} {F : Value → Prop} (hk : (match op with | .shl | .shr => true | _ => decide (k = k')) = true) (h : binInt op k x y F) :
    ∃ v, F v ∧ ∀ w, (do eqGuard op t ox oy (.int k x) (.int k' y); binOp op t (.int k x) (.int k' y) : Sem Value).run P w = .ok v w := by
  cases op <;> simp only [binInt] at h <;> simp only [decide_eq_true_eq] at hk
  case quo => subst hk; exact ⟨_, h.2, fun w => by simp [eqGuard, binOp, Op.intDiv, h.1]⟩
  case rem => subst hk; exact ⟨_, h.2, fun w => by simp [eqGuard, binOp, Op.intDiv, h.1]⟩
  case shl => exact ⟨_, h.2, fun w => by simp [eqGuard, binOp, Op.shift, Int.not_lt.2 h.1]⟩
  case shr => exact ⟨_, h.2, fun w => by simp [eqGuard, binOp, Op.shift, Int.not_lt.2 h.1]⟩
  all_goals subst hk; exact ⟨_, h, fun w => by simp [eqGuard, binOp, Op.intArith, Op.intBits, Op.intCmp]⟩
theorem binStr_run {op : BinOp} {x y : ByteArray} {t : Nat} {ox oy : Operand} {F : Value → Prop} (h : binStr op x y F) :
    ∃ v, F v ∧ ∀ w, (do eqGuard op t ox oy (.string x) (.string y); binOp op t (.string x) (.string y) : Sem Value).run P w = .ok v w := by
  cases op <;> simp only [binStr] at h
  case add => exact ⟨_, h.2, fun w => by
    simp only [eqGuard, binOp, Op.stringOp, Sem.run_bind, Sem.run_pure, if_neg (Int.not_lt.2 h.1), gt_iff_lt, Bool.not_false, if_true]
    simp⟩
  all_goals first | exact h.elim | exact ⟨_, h, fun w => by simp [eqGuard, binOp, Op.stringOp]⟩
include hT in
theorem eqK_run {neg : Bool} {t : Nat} {a b : Value} {ox oy : Operand} {F : Value → Prop} (h : eqK T neg t a b F) :
    ∃ v, F v ∧ ∀ w, (do eqGuard (bif neg then .neq else .eql) t ox oy a b; binOp (bif neg then .neq else .eql) t a b : Sem Value).run P w = .ok v w := by
  unfold eqK at h
  split at h
  · exact h.elim
  rename_i i hi
  obtain ⟨hsh, _⟩ := hT.tyOk hi
  split at h
  case h_1 x y hs =>
    rcases shOk_cases hsh with ⟨inf, d, c, hu, _, hs', hc, _⟩ | ⟨_, _, _, hs', _⟩ | ⟨_, _, _, hs', _⟩
    · rw [hs] at hs'; cases hs'
      have hd : d = .bool := by cases d <;> simp [cellOk] at hc; rfl
      subst hd
      refine ⟨_, h, fun w => ?_⟩
      cases neg <;> simp [eqGuard, run_eql_bool, run_neq_bool, hu]
    · rw [hs] at hs'; cases hs'
    · rw [hs] at hs'; cases hs'
  case h_2 o hs =>
    rcases shOk_cases hsh with ⟨inf, d, c, hu, _, hs', hc, _⟩ | ⟨_, _, _, hs', _⟩ | ⟨_, _, _, hs', _⟩
    · rw [hs] at hs'; cases hs'
      obtain ⟨e, hd⟩ : ∃ e, d = .pointer e := by cases d <;> simp [cellOk] at hc; exact ⟨_, rfl⟩
      subst hd
      refine ⟨_, h, fun w => ?_⟩
      cases neg <;> simp [eqGuard, binOp, equal_def, run_equalIn_ptr hu]
    · rw [hs] at hs'; cases hs'
    · rw [hs] at hs'; cases hs'
  case h_3 o _ _ _ _ hs =>
    rcases shOk_cases hsh with ⟨inf, d, c, hu, _, hs', hc, _⟩ | ⟨_, _, _, hs', _⟩ | ⟨_, _, _, hs', _⟩
    · rw [hs] at hs'; cases hs'
      obtain ⟨e, hd⟩ : ∃ e, d = .slice e := by cases d <;> simp [cellOk] at hc; exact ⟨_, rfl⟩
      subst hd
      refine ⟨_, h, fun w => ?_⟩
      cases neg <;> simp [eqGuard, binOp, equal_def, run_equalIn_slc hu]
    · rw [hs] at hs'; cases hs'
    · rw [hs] at hs'; cases hs'
  case h_4 o hs =>
    rcases shOk_cases hsh with ⟨inf, d, c, hu, _, hs', hc, _⟩ | ⟨_, _, _, hs', _⟩ | ⟨_, _, _, hs', _⟩
    · rw [hs] at hs'; cases hs'
      obtain ⟨k, e, hd⟩ : ∃ k e, d = .map k e := by cases d <;> simp [cellOk] at hc; exact ⟨_, _, rfl⟩
      subst hd
      refine ⟨_, h, fun w => ?_⟩
      cases neg <;> simp [eqGuard, binOp, equal_def, run_equalIn_mp hu]
    · rw [hs] at hs'; cases hs'
    · rw [hs] at hs'; cases hs'
  case h_5 cs xs ys hs =>
    split at h
    · rename_i cs' he
      split at h
      · rename_i hc
        simp only [Bool.and_eq_true] at hc
        refine ⟨_, h, fun w => ?_⟩
        obtain ⟨e1, e2⟩ := hT.eq t i cs' hi he xs.toList ys.toList w hc.1 hc.2
        cases neg
        · simpa [eqGuard] using e1
        · simpa [eqGuard] using e2
      · exact h.elim
    · exact h.elim
  case h_6 => exact h.elim
include hT in
theorem binK_run {op : BinOp} {t : Nat} {a b : Value} {ox oy : Operand} {F : Value → Prop} (h : binK T op t a b F) :
    ∃ v, F v ∧ ∀ w, (do eqGuard op t ox oy a b; binOp op t a b : Sem Value).run P w = .ok v w := by
  unfold binK at h
  split at h
  · split at h
    · rename_i hk; exact binInt_run hk h
    · exact h.elim
  · exact binStr_run h
  · cases op <;> simp only at h
    case eql => exact eqK_run hT (neg := false) h
    case neq => exact eqK_run hT (neg := true) h
    all_goals exact h.elim
theorem unK_run {op : UnOp} {v : Value} {F : Value → Prop} (h : unK op v F) : ∃ u, F u ∧ ∀ w, (Op.unary op v).run P w = .ok u w := by
  unfold unK at h
  split at h
  · exact ⟨_, h, fun w => by simp [Op.unary, Op.intArith]⟩
  · exact ⟨_, h, fun w => by simp [Op.unary]⟩
  · exact ⟨_, h, fun w => by simp [Op.unary, Op.intBits]⟩
  · exact h.elim
include hT in
theorem convK_run {src dst : Nat} {v : Value} {F : Value → Prop} (h : convK T src dst v F) : ∃ u, F u ∧ ∀ w, (convert src dst v).run P w = .ok u w := by
  unfold convK at h
  split at h
  · rename_i i j hi hj
    obtain ⟨hsi, _⟩ := hT.tyOk hi
    obtain ⟨hsj, _⟩ := hT.tyOk hj
    split at h
    · rename_i k' k k'' n hs hd
      rcases shOk_cases hsi with ⟨_, d, c, hu, _, hs', hc, _⟩ | ⟨_, _, _, hs', _⟩ | ⟨_, _, _, hs', _⟩
      · rw [hs] at hs'; cases hs'
        rcases shOk_cases hsj with ⟨_, d2, c2, hu2, _, hs2, hc2, _⟩ | ⟨_, _, _, hs', _⟩ | ⟨_, _, _, hs', _⟩
        · rw [hd] at hs2; cases hs2
          obtain ⟨q, hq⟩ : ∃ q, d2 = .int q ∧ q = k := by cases d2 <;> simp [cellOk] at hc2; exact ⟨_, rfl, hc2⟩
          obtain ⟨rfl, rfl⟩ := hq
          obtain ⟨q2, hq2⟩ : ∃ q, d = .int q := by cases d <;> simp [cellOk] at hc; exact ⟨_, rfl⟩
          subst hq2
          exact ⟨_, h, fun w => by simp [convert, run_underlying hu, run_underlying hu2, Conv.intToInt]⟩
        · rw [hd] at hs'; cases hs'
        · rw [hd] at hs'; cases hs'
      · rw [hs] at hs'; cases hs'
      · rw [hs] at hs'; cases hs'
    · rename_i s hs hd
      rcases shOk_cases hsi with ⟨_, d, c, hu, _, hs', hc, _⟩ | ⟨_, _, _, hs', _⟩ | ⟨_, _, _, hs', _⟩
      · rw [hs] at hs'; cases hs'
        rcases shOk_cases hsj with ⟨_, d2, c2, hu2, _, hs2, hc2, _⟩ | ⟨_, _, _, hs', _⟩ | ⟨_, _, _, hs', _⟩
        · rw [hd] at hs2; cases hs2
          have e2 : d2 = .string := by cases d2 <;> simp [cellOk] at hc2; rfl
          have e1 : d = .string := by cases d <;> simp [cellOk] at hc; rfl
          subst e1; subst e2
          exact ⟨_, h, fun w => by simp [convert, run_underlying hu, run_underlying hu2]⟩
        · rw [hd] at hs'; cases hs'
        · rw [hd] at hs'; cases hs'
      · rw [hs] at hs'; cases hs'
      · rw [hs] at hs'; cases hs'
    · exact h.elim
  · exact h.elim
end
end Go.V

namespace Go.V
open Go.RowKit (Below)
def idxK (T : Tab) (t : Nat) (x i : Value) (F : Value → Prop) : Prop :=
  match T.t t, i with
  | some inf, .int _ n => match inf.idx, x with
    | some (none, sz), .slice a len _ => (0 ≤ n ∧ n < (len : Int)) ∧ AddrK a fun p => F (.pointer (some (p.add (n.toNat * sz))))
    | some (some len, sz), .pointer a => (0 ≤ n ∧ n < (len : Int)) ∧ AddrK a fun p => F (.pointer (some (p.add (n.toNat * sz))))
    | _, _ => False
  | _, _ => False
def fldK (T : Tab) (s f : Nat) (x : Value) (F : Value → Prop) : Prop :=
  match T.t s with
  | some inf => match inf.places[f]? with
    | some (o, _, _) => ptrOf x fun p => F (.pointer (some (p.add o)))
    | none => False
  | none => False
def fieldK (T : Tab) (s f : Nat) (x : Value) (F : Value → Prop) : Prop :=
  match T.t s with
  | some inf => match inf.places[f]? with
    | some (o, n, true) => aggOf x fun cs => F (.agg (cs.extract o (o + n)))
    | some (o, _, false) => aggOf x fun cs => ofV cs[o]? F
    | none => False
  | none => False
def strIdxK (T : Tab) (t : Nat) (x i : Value) (F : Value → Prop) : Prop :=
  match T.t t with
  | some inf => match inf.sh, x, i with
    | .one .str, .string s, .int _ n => ∃ b : UInt8, (0 ≤ n ∧ s[n.toNat]? = some b) ∧ F (.int .u8 b.toNat)
    | _, _, _ => False
  | none => False
def bndK (o : Option Value) (d : Nat) (F : Nat → Prop) : Prop :=
  match o with
  | none => F d
  | some (.int _ n) => 0 ≤ n ∧ F n.toNat
  | some _ => False
def sliceK (T : Tab) (t : Nat) (x : Value) (lo hi : Option Value) (F : Value → Prop) : Prop :=
  match T.t t with
  | some inf => match inf.sh, inf.idx, x with
    | .one .str, _, .string s => bndK lo 0 fun l => bndK hi s.size fun h => (l ≤ h ∧ h ≤ s.size) ∧ F (.string (s.extract l h))
    | _, some (none, sz), .slice a len cap => bndK lo 0 fun l => bndK hi len fun h => (l ≤ h ∧ h ≤ cap) ∧ F (.slice (if cap = l then a else a.map (·.add (l * sz))) (h - l) (cap - l))
    | _, _, _ => False
  | none => False
def lenK (T : Tab) (t : Nat) (v : Value) (F : Value → Prop) : Prop :=
  match T.t t with
  | some i => match i.sh, v with
    | .one .str, .string s => F (.int .i64 (s.size : Nat))
    | .one .slice, .slice _ n _ => F (.int .i64 (n : Nat))
    | _, _ => False
  | none => False
def capK (T : Tab) (t : Nat) (v : Value) (F : Value → Prop) : Prop :=
  match T.t t with
  | some i => match i.sh, v with
    | .one .slice, .slice _ _ n => F (.int .i64 (n : Nat))
    | _, _ => False
  | none => False
def buildK (T : Tab) (t : Nat) (parts : List (Nat × Value)) (F : Value → Prop) : Prop :=
  match T.t t with
  | some i => match i.zero with
    | some z => match i.places, i.idx with
      | [], some (some _, sz) => match Instr.fill (fun j => some (j * sz, sz)) z.toArray parts with | some cs => F (.agg cs) | none => False
      | _ :: _, none => match Instr.fill (fun j => (i.places[j]?).map fun x => (x.1, x.2.1)) z.toArray parts with | some cs => F (.agg cs) | none => False
      | _, _ => False
    | none => False
  | none => False
def evps (e : Env) : List (Nat × Operand) → (List (Nat × Value) → Prop) → Prop
  | [], F => F []
  | (i, x) :: xs, F => ofV (ev e x) fun v => evps e xs fun vs => F ((i, v) :: vs)
theorem evps_eval {N : Nat} {a : Act} {e : Env} (h : Ag N a e) : ∀ {xs : List (Nat × Operand)} {F : List (Nat × Value) → Prop}, evps e xs F → F (xs.map fun (i, x) => (i, a.eval x))
  | [], _, hF => hF
  | (i, x) :: xs, F, hF => by
    obtain ⟨v, hx, hF⟩ := ofV_some hF
    have := evps_eval h hF
    simpa [ev_eval h hx] using this
def optV (e : Env) : Option Operand → (Option Value → Prop) → Prop
  | none, F => F none
  | some x, F => ofV (ev e x) fun v => F (some v)
def hasLen (T : Tab) (t : Nat) : Bool := match T.t t with | some i => (match i.sh with | .one .str | .one .slice => true | _ => false) | none => false
def isPure (T : Tab) : Op → Bool
  | .move _ | .assign _ | .pick .. | .load .. | .build .. | .nilCheck _ | .binOp .. | .unOp .. | .fieldAddr .. | .field .. | .indexAddr .. | .extract .. => true
  | .index t _ _ => match T.t t with | some i => (match i.sh with | .one .str => true | _ => false) | none => false
  | .slice _ _ _ _ none => true
  | .convert s d _ => match T.t s, T.t d with | some i, some j => (match i.sh, j.sh with | .one (.int _), .one (.int _) | .one .str, .one .str => true | _, _ => false) | _, _ => false
  | .call { callee := .builtin .len, args := _, argTypes := ts } => match ts[0]? with | some t => hasLen T t | none => false
  | .call { callee := .builtin .cap, .. } | .call { callee := .builtin .min, .. } | .call { callee := .builtin .max, .. } => true
  | _ => false
def pureV (T : Tab) (op : Op) (e : Env) (w : World) (F : Value → Prop) : Prop :=
  match op with
  | .move x | .assign x => ofV (ev e x) F
  | .pick c a b => ofV (ev e c) fun v => boolOf v fun t => BoolK t (ofV (ev e a) F) (ofV (ev e b) F)
  | .load t x => ofV (ev e x) fun v => ptrOf v fun p => match T.t t with | some i => ldSh i.sh w p F | none => False
  | .nilCheck x => ofV (ev e x) fun v => ptrOf v fun p => F (.pointer (some p))
  | .binOp op t x y _ => ofV (ev e x) fun a => ofV (ev e y) fun b => binK T op t a b F
  | .unOp op _ x => ofV (ev e x) fun a => unK op a F
  | .convert s d x => ofV (ev e x) fun a => convK T s d a F
  | .fieldAddr s x f => ofV (ev e x) fun a => fldK T s f a F
  | .field s x f => ofV (ev e x) fun a => fieldK T s f a F
  | .indexAddr t x i => ofV (ev e x) fun a => ofV (ev e i) fun b => idxK T t a b F
  | .index t x i => ofV (ev e x) fun a => ofV (ev e i) fun b => strIdxK T t a b F
  | .slice t x lo hi none => ofV (ev e x) fun a => optV e lo fun l => optV e hi fun h => sliceK T t a l h F
  | .build t ps => evps e ps.toList fun vs => buildK T t vs F
  | .extract x i => ofV (ev e x) fun a => match a with | .tuple vs => ofV vs[i]? F | _ => False
  | .call { callee := .builtin .len, args := xs, argTypes := ts } => match ts.toList with | [t] => (evs e xs.toList fun vs => match vs with | [v] => lenK T t v F | _ => False) | _ => False
  | .call { callee := .builtin .cap, args := xs, argTypes := ts } => match ts.toList with | [t] => (evs e xs.toList fun vs => match vs with | [v] => capK T t v F | _ => False) | _ => False
  | .call { callee := .builtin .min, args := xs, argTypes := _ } => evs e xs.toList fun vs => match vs with | [v, u] => minK v u F | _ => False
  | .call { callee := .builtin .max, args := xs, argTypes := _ } => evs e xs.toList fun vs => match vs with | [v, u] => maxK v u F | _ => False
  | _ => False
def Leaves (P : Program) (s : Sem Next) (w : World) (F : Value → Prop) : Prop :=
  ∃ v, F v ∧ ∀ w', Cel w w' → s.run P w' = .ok (.value v) w'
theorem Leaves.mk {P : Program} {s : Sem Value} {w : World} {F : Value → Prop} (h : ∃ v, F v ∧ ∀ w', Cel w w' → s.run P w' = .ok v w') :
    Leaves P (do pure (.value (← s))) w F := by
  obtain ⟨v, hF, hr⟩ := h
  exact ⟨v, hF, fun w' hB => by simp [hr w' hB]⟩
theorem Leaves.all {P : Program} {s : Sem Value} {w : World} {F : Value → Prop} (h : ∃ v, F v ∧ ∀ w', s.run P w' = .ok v w') :
    Leaves P (do pure (.value (← s))) w F := by
  obtain ⟨v, hF, hr⟩ := h
  exact Leaves.mk ⟨v, hF, fun w' _ => hr w'⟩
section
variable {P : Program} {T : Tab} (hT : T.Ok P)
theorem idxOk_slice {t : Nat} {i : TInfo} {sz : Nat} (h : idxOk P t i = true) (hi : i.idx = some (none, sz)) :
    ∃ j, P.underlying t = some (.slice i.elem) ∧ P.info? i.elem = some j ∧ j.size = sz := by
  unfold idxOk at h
  rw [hi] at h
  simp only at h
  split at h
  · rename_i e he
    simp only [Bool.and_eq_true] at h
    have := Nat.eq_of_beq_eq_true h.1
    subst this
    split at h
    · rename_i j hj; exact ⟨j, he, hj, Nat.eq_of_beq_eq_true h.2⟩
    · simp at h
  · cases h
theorem idxOk_array {t : Nat} {i : TInfo} {n sz : Nat} (h : idxOk P t i = true) (hi : i.idx = some (some n, sz)) :
    ∃ e j, P.underlying t = some (.array n e) ∧ P.info? e = some j ∧ j.size = sz ∧ 2 ≤ n := by
  unfold idxOk at h
  rw [hi] at h
  simp only at h
  split at h
  · rename_i m e he
    simp only [Bool.and_eq_true] at h
    have := Nat.eq_of_beq_eq_true h.1.1
    subst this
    split at h
    · rename_i j hj; exact ⟨e, j, he, hj, Nat.eq_of_beq_eq_true h.2, Nat.le_of_ble_eq_true h.1.2⟩
    · simp at h
  · cases h
include hT in
theorem idxK_run {t : Nat} {x i : Value} {F : Value → Prop} (h : idxK T t x i F) : ∃ v, F v ∧ ∀ w, (Instr.indexAt t x i).run P w = .ok v w := by
  unfold idxK at h
  split at h
  case h_2 => exact h.elim
  rename_i inf k n hi
  obtain ⟨_, hix, _, _⟩ := hT.tyOk hi
  split at h
  · rename_i sz a len c hidx
    obtain ⟨hb, h⟩ := h
    obtain ⟨p, rfl, hF⟩ := AddrK_some h
    obtain ⟨j, hu, hj, hz⟩ := idxOk_slice hix hidx
    exact ⟨_, hF, fun w => by simp [Instr.indexAt, asIntOf, run_underlying hu, hb, sizeOf, typeInfo, hj, hz]⟩
  · rename_i len sz a hidx
    obtain ⟨hb, h⟩ := h
    obtain ⟨p, rfl, hF⟩ := AddrK_some h
    obtain ⟨e, j, hu, hj, hz, _⟩ := idxOk_array hix hidx
    exact ⟨_, hF, fun w => by simp [Instr.indexAt, Instr.sureAddr, asIntOf, run_underlying hu, hb, sizeOf, typeInfo, hj, hz]⟩
  · exact h.elim
theorem placesOk_get {fs : List Field} {l : List (Nat × Nat × Bool)} (h : placesOk P fs l = true) (k o s : Nat) (b : Bool) (hk : l[k]? = some (o, s, b)) :
    ∃ f j, fs[k]? = some f ∧ f.offset = o ∧ P.info? f.type = some j ∧ j.size = s ∧ 1 ≤ s ∧ aggOk P f.type b = true := by
  induction l generalizing fs k with
  | nil => simp at hk
  | cons x r ih =>
    obtain ⟨o', s', b'⟩ := x
    cases fs with
    | nil => simp [placesOk] at h
    | cons f fs =>
      simp only [placesOk, Bool.and_eq_true] at h
      cases k with
      | zero =>
        simp only [List.getElem?_cons_zero, Option.some.injEq, Prod.mk.injEq] at hk
        obtain ⟨rfl, rfl, rfl⟩ := hk
        obtain ⟨⟨⟨h1, h2⟩, h3⟩, _⟩ := h
        split at h2
        · rename_i j hj
          simp only [Bool.and_eq_true] at h2
          exact ⟨f, j, rfl, Nat.eq_of_beq_eq_true h1, hj, Nat.eq_of_beq_eq_true h2.1, Nat.le_of_ble_eq_true h2.2, h3⟩
        · cases h2
      | succ k =>
        simp only [List.getElem?_cons_succ] at hk
        obtain ⟨g, j, h1, h2⟩ := ih h.2 k hk
        exact ⟨g, j, by simpa using h1, h2⟩
theorem fldOk_get {t : Nat} {i : TInfo} (h : fldOk P t i = true) {k o s : Nat} {b : Bool} (hk : i.places[k]? = some (o, s, b)) :
    ∃ fs f j, P.underlying t = some (.struct fs) ∧ fs[k]? = some f ∧ f.offset = o ∧ P.info? f.type = some j ∧ j.size = s ∧ 1 ≤ s ∧ aggOk P f.type b = true := by
  unfold fldOk at h
  split at h
  · rename_i hn; rw [hn] at hk; simp at hk
  · split at h
    · rename_i fs hu
      simp only [Bool.and_eq_true] at h
      obtain ⟨f, j, h1, h2⟩ := placesOk_get h.2 k o s b hk
      exact ⟨fs, f, j, hu, by simpa using h1, h2⟩
    · cases h
include hT in
theorem fldK_run {s f : Nat} {x : Value} {F : Value → Prop} (h : fldK T s f x F) : ∃ v, F v ∧ ∀ w, (Instr.fieldAt s x f).run P w = .ok v w := by
  unfold fldK at h
  split at h
  case h_2 => exact h.elim
  rename_i inf hi
  obtain ⟨_, _, hfl, _⟩ := hT.tyOk hi
  split at h
  case h_2 => exact h.elim
  rename_i o n b hp
  obtain ⟨p, rfl, hF⟩ := ptrOf_some h
  obtain ⟨fs, fd, j, hu, hf, ho, hj, hz, hn, _⟩ := fldOk_get hfl hp
  refine ⟨_, hF, fun w => ?_⟩
  have : ¬ j.size = 0 := by omega
  simp [Instr.fieldAt, run_underlying hu, hf, Instr.sureAddr, fieldPlace, sizeOf, typeInfo, hj, this, ho]
include hT in
theorem fieldK_run {s f : Nat} {x : Value} {F : Value → Prop} (h : fieldK T s f x F) : ∃ v, F v ∧ ∀ w, (Instr.field s x f).run P w = .ok v w := by
  unfold fieldK at h
  split at h
  case h_2 => exact h.elim
  rename_i inf hi
  obtain ⟨_, _, hfl, _⟩ := hT.tyOk hi
  split at h
  · rename_i o n hp
    obtain ⟨cs, rfl, hF⟩ := aggOf_some h
    obtain ⟨fs, fd, j, hu, hf, ho, hj, hz, hn, hag⟩ := fldOk_get hfl hp
    refine ⟨_, hF, fun w => ?_⟩
    have hA : (isAgg fd.type).run P w = .ok true w := by
      unfold aggOk at hag
      split at hag
      · rename_i g hg; simp [isAgg, run_underlying hg]
      · rename_i g g2 hg; simp [isAgg, run_underlying hg]
      · cases hag
      · cases hag
    simp [Instr.field, run_underlying hu, hf, asAgg, part, hA, sizeOf, typeInfo, hj, hz, ho]
  · rename_i o n hp
    obtain ⟨cs, rfl, h⟩ := aggOf_some h
    obtain ⟨v, hv, hF⟩ := ofV_some h
    obtain ⟨fs, fd, j, hu, hf, ho, hj, hz, hn, hag⟩ := fldOk_get hfl hp
    refine ⟨_, hF, fun w => ?_⟩
    have hA : (isAgg fd.type).run P w = .ok false w := by
      unfold aggOk at hag
      split at hag
      · cases hag
      · cases hag
      · rename_i d hs ha hg
        cases d <;> simp [isAgg, run_underlying hg]
        · exact ha _ _ rfl
        · exact hs _ rfl
      · cases hag
    simp [Instr.field, run_underlying hu, hf, asAgg, part, hA, ho, hv]
  · exact h.elim
include hT in
theorem strIdxK_run {t : Nat} {x i : Value} {F : Value → Prop} (h : strIdxK T t x i F) : ∃ v, F v ∧ ∀ w, (Instr.index t x i).run P w = .ok v w := by
  unfold strIdxK at h
  split at h
  case h_2 => exact h.elim
  rename_i inf hi
  obtain ⟨hsh, _⟩ := hT.tyOk hi
  split at h
  case h_2 => exact h.elim
  rename_i s k n hs
  obtain ⟨b, ⟨h0, hb⟩, hF⟩ := h
  rcases shOk_cases hsh with ⟨_, d, c, hu, _, hs', hc, _⟩ | ⟨_, _, _, hs', _⟩ | ⟨_, _, _, hs', _⟩
  · rw [hs] at hs'; cases hs'
    have e1 : d = .string := by cases d <;> simp [cellOk] at hc; rfl
    subst e1
    exact ⟨_, hF, fun w => by simp [Instr.index, asIntOf, run_underlying hu, h0, hb]⟩
  · rw [hs] at hs'; cases hs'
  · rw [hs] at hs'; cases hs'
theorem bndK_run {o : Option Value} {d y : Nat} {code : BoundsCode} {F : Nat → Prop} (h : bndK o d F) (hd : o = none → d ≤ y) (hF : ∀ m, F m → m ≤ y) :
    ∃ m, F m ∧ ∀ w, (match o with | some v => Instr.sliceBound v y code | none => pure d : Sem Nat).run P w = .ok m w := by
  unfold bndK at h
  split at h
  · exact ⟨d, h, fun w => rfl⟩
  · rename_i k n
    refine ⟨n.toNat, h.2, fun w => ?_⟩
    have := hF _ h.2
    rw [run_sliceBound (P := P) (w := w) k n y code h.1 (by omega)]
  · exact h.elim
include hT in
theorem sliceK_run {t : Nat} {x : Value} {lo hi : Option Value} {F : Value → Prop} (h : sliceK T t x lo hi F) :
    ∃ v, F v ∧ ∀ w, (Instr.sliceAt t x lo hi none).run P w = .ok v w := by
  unfold sliceK at h
  split at h
  case h_2 => exact h.elim
  rename_i inf hi'
  obtain ⟨hsh, hix, _, _⟩ := hT.tyOk hi'
  split at h
  · rename_i s hs
    rcases shOk_cases hsh with ⟨_, d, c, hu, _, hs', hc, _⟩ | ⟨_, _, _, hs', _⟩ | ⟨_, _, _, hs', _⟩
    · rw [hs] at hs'; cases hs'
      have e1 : d = .string := by cases d <;> simp [cellOk] at hc; rfl
      subst e1
      unfold bndK at h
      split at h
      · split at h
        · exact ⟨_, h.2, fun w => by simp [Instr.sliceAt, Instr.slice, run_underlying hu, Instr.sliceBounds]⟩
        · obtain ⟨h1, ⟨h2, h3⟩, hF⟩ := h
          rename_i k n
          refine ⟨_, hF, fun w => ?_⟩
          simp [Instr.sliceAt, Instr.slice, run_underlying hu, Instr.sliceBounds, run_sliceBound, h1, show n ≤ (s.size : Int) by omega]
        · exact h.elim
      · obtain ⟨h0, h⟩ := h
        split at h
        · obtain ⟨⟨h2, h3⟩, hF⟩ := h
          rename_i k n _
          refine ⟨_, hF, fun w => ?_⟩
          simp [Instr.sliceAt, Instr.slice, run_underlying hu, Instr.sliceBounds, run_sliceBound, h0, show n ≤ (s.size : Int) by omega]
        · obtain ⟨h1, ⟨h2, h3⟩, hF⟩ := h
          rename_i k n _ k' n'
          refine ⟨_, hF, fun w => ?_⟩
          have e := run_sliceBound (P := P) (w := w) k n n'.toNat .sliceB h0 (by omega)
          simp [Instr.sliceAt, Instr.slice, run_underlying hu, Instr.sliceBounds, run_sliceBound, h1, show n' ≤ (s.size : Int) by omega, e]
        · exact h.elim
      · exact h.elim
    · rw [hs] at hs'; cases hs'
    · rw [hs] at hs'; cases hs'
  · rename_i sz a len cap hidx
    obtain ⟨j, hu, hj, hz⟩ := idxOk_slice hix hidx
    unfold bndK at h
    split at h
    · split at h
      · exact ⟨_, h.2, fun w => by simp [Instr.sliceAt, Instr.slice, run_underlying hu, Instr.sliceBounds, sizeOf, typeInfo, hj]⟩
      · obtain ⟨h1, ⟨h2, h3⟩, hF⟩ := h
        rename_i k n
        refine ⟨_, hF, fun w => ?_⟩
        simp [Instr.sliceAt, Instr.slice, run_underlying hu, Instr.sliceBounds, run_sliceBound, h1, show n ≤ (cap : Int) by omega, sizeOf, typeInfo, hj]
      · exact h.elim
    · obtain ⟨h0, h⟩ := h
      split at h
      · obtain ⟨⟨h2, h3⟩, hF⟩ := h
        rename_i k n _
        refine ⟨_, hF, fun w => ?_⟩
        simp [Instr.sliceAt, Instr.slice, run_underlying hu, Instr.sliceBounds, run_sliceBound, h0, show n ≤ (len : Int) by omega, sizeOf, typeInfo, hj, hz]
      · obtain ⟨h1, ⟨h2, h3⟩, hF⟩ := h
        rename_i k n _ k' n'
        refine ⟨_, hF, fun w => ?_⟩
        have e := run_sliceBound (P := P) (w := w) k n n'.toNat .sliceB h0 (by omega)
        simp [Instr.sliceAt, Instr.slice, run_underlying hu, Instr.sliceBounds, run_sliceBound, h1, show n' ≤ (cap : Int) by omega, e, sizeOf, typeInfo, hj, hz]
      · exact h.elim
    · exact h.elim
  · exact h.elim
theorem placesOk_length {fs : List Field} {l : List (Nat × Nat × Bool)} (h : placesOk P fs l = true) : l.length ≤ fs.length := by
  induction l generalizing fs with
  | nil => simp
  | cons x r ih =>
    obtain ⟨o', s', b'⟩ := x
    cases fs with
    | nil => simp [placesOk] at h
    | cons f fs => simp only [placesOk, Bool.and_eq_true] at h; have := ih h.2; simp; omega
theorem run_mapM_sizes {w : World} : ∀ (fs : List Field) (l : List (Nat × Nat × Bool)), placesOk P fs l = true → fs.length = l.length →
    (fs.mapM fun f => do pure (f.offset, ← sizeOf f.type) : Sem (List (Nat × Nat))).run P w = .ok (l.map fun x => (x.1, x.2.1)) w
  | [], [], _, _ => rfl
  | f :: fs, (o, s, b) :: r, h, hl => by
    simp only [placesOk, Bool.and_eq_true] at h
    obtain ⟨⟨⟨h1, h2⟩, _⟩, h4⟩ := h
    split at h2
    · rename_i j hj
      simp only [Bool.and_eq_true] at h2
      have ih := run_mapM_sizes (w := w) fs r h4 (by simpa using hl)
      have ho := Nat.eq_of_beq_eq_true h1
      have hz := Nat.eq_of_beq_eq_true h2.1
      have hs : (sizeOf f.type).run P w = .ok s w := by simp [sizeOf, typeInfo, hj, hz]
      simp only [List.mapM_cons, Sem.run_bind, hs, Result.andThen_ok, Sem.run_pure, ih, ho, List.map_cons]
    · cases h2
  | _ :: _, [], _, hl => by simp at hl
  | [], _ :: _, _, hl => by simp at hl
include hT in
theorem zero_run {t : Nat} {i : TInfo} (hi : T.t t = some i) {z : List Value} (hz : i.zero = some z) {w : World} : ∃ v, (zeroValue t).run P w = .ok v w ∧ v.cells = z.toArray := by
  obtain ⟨hsh, _⟩ := hT.tyOk hi
  have h0 := hT.zero t i z hi hz
  have : ∃ inf, P.info? t = some inf ∧ inf.zero.isSome = true := by
    rcases shOk_cases hsh with ⟨inf, _, _, _, hj, _, _, _, hzz, _⟩ | ⟨inf, _, hj, _, _, hzz, _⟩ | ⟨inf, _, hj, _, _, hzz, _⟩ <;> exact ⟨inf, hj, hzz⟩
  obtain ⟨inf, hj, hzz⟩ := this
  obtain ⟨v, hv⟩ := Option.isSome_iff_exists.1 hzz
  refine ⟨v, by simp [zeroValue, typeInfo, hj, hv], ?_⟩
  simpa [zeroOf, hj, hv] using h0
include hT in
theorem buildK_run {t : Nat} {parts : List (Nat × Value)} {F : Value → Prop} (h : buildK T t parts F) : ∃ v, F v ∧ ∀ w, (Instr.build t parts.toArray).run P w = .ok v w := by
  unfold buildK at h
  split at h
  case h_2 => exact h.elim
  rename_i i hi
  obtain ⟨hsh, hix, hfl, _⟩ := hT.tyOk hi
  split at h
  case h_2 => exact h.elim
  rename_i z hz
  split at h
  · rename_i n sz hpl hidx
    split at h
    · rename_i cs hcs
      refine ⟨_, h, fun w => ?_⟩
      obtain ⟨e, j, hu, hj, hsz, _⟩ := idxOk_array hix hidx
      obtain ⟨v, hv, hc⟩ := zero_run hT hi hz (w := w)
      simp [Instr.build, hv, run_underlying hu, sizeOf, typeInfo, hj, hsz, hc, hcs]
    · exact h.elim
  · rename_i p ps hpl hidx
    split at h
    · rename_i cs hcs
      refine ⟨_, h, fun w => ?_⟩
      obtain ⟨v, hv, hc⟩ := zero_run hT hi hz (w := w)
      unfold fldOk at hfl
      rw [hpl] at hfl
      split at hfl
      · rename_i hq; cases hq
      · rename_i l hne
        split at hfl
        · rename_i fs hu
          simp only [Bool.and_eq_true] at hfl
          have hm := run_mapM_sizes (P := P) (w := w) fs.toList _ hfl.2 (by simpa using Nat.eq_of_beq_eq_true hfl.1)
          have hm2 : (fs.mapM fun f => do pure (f.offset, ← sizeOf f.type) : Sem (Array (Nat × Nat))).run P w = .ok (((p :: ps).map fun x => (x.1, x.2.1))).toArray w := by
            rw [Array.mapM_eq_mapM_toList, Sem.run_map, hm]; rfl
          have hfun : (fun (j : Nat) => (((p :: ps).map fun (x : Nat × Nat × Bool) => (x.1, x.2.1)).toArray)[j]?) = (fun (j : Nat) => (i.places[j]?).map fun (x : Nat × Nat × Bool) => (x.1, x.2.1)) := by
            funext j; rw [hpl, List.getElem?_toArray, List.getElem?_map]
          simp only [Instr.build, Sem.run_bind, hv, Result.andThen_ok, run_underlying hu, hm2, hc]
          rw [hfun, hcs]
          simp
        · cases hfl
    · exact h.elim
  · exact h.elim
include hT in
theorem lenK_run {t : Nat} {v : Value} {F : Value → Prop} (h : lenK T t v F) : ∃ u, F u ∧ ∀ ty w, (Builtin.len_ #[t] ty #[v]).run P w = .ok u w := by
  unfold lenK at h
  split at h
  case h_2 => exact h.elim
  rename_i i hi
  obtain ⟨hsh, _⟩ := hT.tyOk hi
  rcases shOk_cases hsh with ⟨_, d, c, hu, _, hs', hc, _⟩ | ⟨_, _, _, hs', _⟩ | ⟨_, _, _, hs', _⟩
  · rw [hs'] at h
    split at h
    · rename_i s hs; cases hs
      have e1 : d = .string := by cases d <;> simp [cellOk] at hc; rfl
      subst e1
      exact ⟨_, h, fun ty w' => by simp [Builtin.len_, run_underlying hu, goInt]⟩
    · rename_i a n c' hs; cases hs
      obtain ⟨el, e1⟩ : ∃ e, d = .slice e := by cases d <;> simp [cellOk] at hc; exact ⟨_, rfl⟩
      subst e1
      exact ⟨_, h, fun ty w' => by simp [Builtin.len_, run_underlying hu, goInt]⟩
    · exact h.elim
  · rw [hs'] at h; simp at h
  · rw [hs'] at h; simp at h
include hT in
theorem capK_run {t : Nat} {v : Value} {F : Value → Prop} (h : capK T t v F) : ∃ u, F u ∧ ∀ ty w, (Builtin.cap_ #[t] ty #[v]).run P w = .ok u w := by
  unfold capK at h
  split at h
  case h_2 => exact h.elim
  rename_i i hi
  obtain ⟨hsh, _⟩ := hT.tyOk hi
  rcases shOk_cases hsh with ⟨_, d, c, hu, _, hs', hc, _⟩ | ⟨_, _, _, hs', _⟩ | ⟨_, _, _, hs', _⟩
  · rw [hs'] at h
    split at h
    · rename_i a n c' hs; cases hs
      obtain ⟨el, e1⟩ : ∃ e, d = .slice e := by cases d <;> simp [cellOk] at hc; exact ⟨_, rfl⟩
      subst e1
      exact ⟨_, h, fun ty w' => by simp [Builtin.cap_, run_underlying hu, goInt]⟩
    · exact h.elim
  · rw [hs'] at h; simp at h
  · rw [hs'] at h; simp at h
end
end Go.V

namespace Go.V
open Go.RowKit (Below)
section
variable {P : Program} {T : Tab} (hT : T.Ok P)
include hT in
theorem pureV_sound {N : Nat} {a : Act} {e : Env} (hA : Ag N a e) {o : Oper} {w : World} {F : Value → Prop} (h : pureV T o.op e w F) :
    Leaves P (execOp a.eval o) w F := by
  obtain ⟨dst, op, type, pos, after, guard⟩ := o
  cases op <;> simp only [pureV] at h <;> simp only [execOp]
  case move x => obtain ⟨v, hx, hF⟩ := ofV_some h; exact ⟨v, hF, fun w' _ => by simp [ev_eval hA hx]⟩
  case assign x => obtain ⟨v, hx, hF⟩ := ofV_some h; exact ⟨v, hF, fun w' _ => by simp [ev_eval hA hx]⟩
  case pick c x y =>
    obtain ⟨v, hc, h⟩ := ofV_some h
    obtain ⟨t, rfl, h⟩ := boolOf_some h
    have hcv := ev_eval hA hc
    cases t with
    | true => obtain ⟨v, hx, hF⟩ := ofV_some (show ofV (ev e x) F from h); exact ⟨v, hF, fun w' _ => by simp [hcv, asBool, ev_eval hA hx]⟩
    | false => obtain ⟨v, hx, hF⟩ := ofV_some (show ofV (ev e y) F from h); exact ⟨v, hF, fun w' _ => by simp [hcv, asBool, ev_eval hA hx]⟩
  case load t x =>
    obtain ⟨v, hx, h⟩ := ofV_some h
    obtain ⟨p, rfl, h⟩ := ptrOf_some h
    split at h
    · rename_i i hi
      obtain ⟨u, hF, hr⟩ := ldSh_run (hT.tyOk hi).1 h
      exact ⟨u, hF, fun w' hB => by simp [ev_eval hA hx, Instr.loadAt, Instr.sureAddr, hr w' hB]⟩
    · exact h.elim
  case nilCheck x =>
    obtain ⟨v, hx, h⟩ := ofV_some h
    obtain ⟨p, rfl, h⟩ := ptrOf_some h
    exact ⟨_, h, fun w' _ => by simp [ev_eval hA hx]⟩
  case binOp op t x y yt =>
    obtain ⟨v, hx, h⟩ := ofV_some h
    obtain ⟨u, hy, h⟩ := ofV_some h
    have := Leaves.all (w := w) (binK_run hT (ox := x) (oy := y) h)
    simpa [ev_eval hA hx, ev_eval hA hy] using this
  case unOp op t x =>
    obtain ⟨v, hx, h⟩ := ofV_some h
    have := Leaves.all (P := P) (w := w) (unK_run h)
    simpa [ev_eval hA hx] using this
  case convert s d x =>
    obtain ⟨v, hx, h⟩ := ofV_some h
    have := Leaves.all (w := w) (convK_run hT h)
    simpa [ev_eval hA hx] using this
  case fieldAddr s x f =>
    obtain ⟨v, hx, h⟩ := ofV_some h
    have := Leaves.all (w := w) (fldK_run hT h)
    simpa [ev_eval hA hx] using this
  case field s x f =>
    obtain ⟨v, hx, h⟩ := ofV_some h
    have := Leaves.all (w := w) (fieldK_run hT h)
    simpa [ev_eval hA hx] using this
  case indexAddr t x i =>
    obtain ⟨v, hx, h⟩ := ofV_some h
    obtain ⟨u, hy, h⟩ := ofV_some h
    have := Leaves.all (w := w) (idxK_run hT h)
    simpa [ev_eval hA hx, ev_eval hA hy] using this
  case index t x i =>
    obtain ⟨v, hx, h⟩ := ofV_some h
    obtain ⟨u, hy, h⟩ := ofV_some h
    have := Leaves.all (w := w) (strIdxK_run hT h)
    simpa [ev_eval hA hx, ev_eval hA hy] using this
  case slice t x lo hi mx =>
    cases mx with
    | some m => exact h.elim
    | none =>
      obtain ⟨v, hx, h⟩ := ofV_some h
      have hl : ∃ l, lo.map a.eval = l ∧ optV e hi fun h' => sliceK T t v l h' F := by
        cases lo with
        | none => exact ⟨none, rfl, h⟩
        | some y => obtain ⟨u, hy, h⟩ := ofV_some (show ofV (ev e y) _ from h); exact ⟨some u, by simp [ev_eval hA hy], h⟩
      obtain ⟨l, hl, h⟩ := hl
      have hh : ∃ h', hi.map a.eval = h' ∧ sliceK T t v l h' F := by
        cases hi with
        | none => exact ⟨none, rfl, h⟩
        | some y => obtain ⟨u, hy, h⟩ := ofV_some (show ofV (ev e y) _ from h); exact ⟨some u, by simp [ev_eval hA hy], h⟩
      obtain ⟨h', hh, h⟩ := hh
      have := Leaves.all (w := w) (sliceK_run hT h)
      rw [hl, hh]
      simpa [ev_eval hA hx] using this
  case build t ps =>
    have h := evps_eval hA h
    have := Leaves.all (w := w) (buildK_run hT h)
    rw [show (ps.map fun x => (x.1, a.eval x.2)) = (ps.toList.map fun (i, x) => (i, a.eval x)).toArray by apply Array.ext'; simp]
    exact this
  case extract x i =>
    obtain ⟨v, hx, h⟩ := ofV_some h
    split at h
    · obtain ⟨u, hu, hF⟩ := ofV_some h
      exact ⟨u, hF, fun w' _ => by simp [ev_eval hA hx, Instr.extract, hu]⟩
    · exact h.elim
  case call c =>
    obtain ⟨callee, xs, ts⟩ := c
    cases callee with
    | value f => exact h.elim
    | invoke r m => exact h.elim
    | builtin b =>
      cases b <;> simp only at h
      case len =>
        split at h
        · rename_i t ht
          have h := evs_eval hA h
          split at h
          · rename_i v hv
            have hx : xs.map a.eval = #[v] := by apply Array.ext'; simpa using hv
            have ht' : ts = #[t] := by apply Array.ext'; simpa using ht
            subst ht'
            obtain ⟨u, hF, hr⟩ := lenK_run hT h
            exact ⟨_, hF, fun w' _ => by simp [resolve, hx, invoke, builtin, hr]⟩
          · exact h.elim
        · exact h.elim
      case cap =>
        split at h
        · rename_i t ht
          have h := evs_eval hA h
          split at h
          · rename_i v hv
            have hx : xs.map a.eval = #[v] := by apply Array.ext'; simpa using hv
            have ht' : ts = #[t] := by apply Array.ext'; simpa using ht
            subst ht'
            obtain ⟨u, hF, hr⟩ := capK_run hT h
            exact ⟨_, hF, fun w' _ => by simp [resolve, hx, invoke, builtin, hr]⟩
          · exact h.elim
        · exact h.elim
      case min =>
        have h := evs_eval hA h
        split at h
        · rename_i v u hv
          have hx : xs.map a.eval = #[v, u] := by apply Array.ext'; simpa using hv
          unfold minK at h
          split at h
          · exact ⟨_, h, fun w' _ => by simp [resolve, hx, invoke, builtin, run_min_int2]⟩
          · exact h.elim
        · exact h.elim
      case max =>
        have h := evs_eval hA h
        split at h
        · rename_i v u hv
          have hx : xs.map a.eval = #[v, u] := by apply Array.ext'; simpa using hv
          unfold maxK at h
          split at h
          · exact ⟨_, h, fun w' _ => by simp [resolve, hx, invoke, builtin, run_max_int2]⟩
          · exact h.elim
        · exact h.elim
      all_goals exact h.elim
  all_goals exact h.elim
end
/-! ### Effects -/
theorem amap {α β : Type} (xs : Array α) (f : α → β) : (xs.toList.map f).toArray = xs.map f := by apply Array.ext'; simp
def zeroA (P : Program) (t : Nat) (i : TInfo) : Array Value := match i.zero with | some l => l.toArray | none => zeroOf P t
def AllocK (w : World) (cs : Array Value) (t : Nat) (K : Addr → World → Prop) : Prop := K ⟨w.heap.size, 0, none⟩ (w.alloc (.cells cs t))
def SetK (w : World) (p : Addr) (u : Value) (F : World → Prop) : Prop := ((∃ x, w.cell? p = some x) ∧ w.frozen? p = false) ∧ F (w.setCell p u)
def StCs : List Value → World → Addr → Nat → (World → Prop) → Prop
  | [], w, _, _, F => F w
  | v :: vs, w, p, i, F => SetK w (p.add i) v fun w' => StCs vs w' p (i + 1) F
def StRow (w : World) (p : Addr) (vs : Array Value) (n : Nat) (F : World → Prop) : Prop :=
  (vs.size = n ∧ vs.all (·.oneCell') = true ∧ p.off = 0 ∧ p.spot = none ∧ ∃ cs t, w.heap[p.block]? = some (.cells cs t (0, 0)) ∧ cs.size = n) ∧ F (w.setRow p.block vs)
def oneCells : List Value → Bool
  | [] => true
  | v :: vs => v.oneCell' && oneCells vs
def st1 (u : Value) (w : World) (p : Addr) (F : World → Prop) : Prop := match u.oneCell' with | true => SetK w p u F | false => False
def stSh : Sh → Value → World → Addr → (World → Prop) → Prop
  | .one _, u, w, p, F => st1 u w p F
  | .agg cs, u, w, p, F => aggOf u fun vs => match Nat.beq vs.toList.length cs.length && oneCells vs.toList with | true => StCs vs.toList w p 0 F | false => False
  | .row n, u, w, p, F => aggOf u fun vs => StRow w p vs n F
def stK (T : Tab) (t : Nat) (p : Addr) (u : Value) (w : World) (F : World → Prop) : Prop :=
  match T.t t with
  | some i => stSh i.sh u w p F
  | none => False
def callArgs (first : List Value) (vs : List Value) (cap : List Value) : Array Value :=
  match first, cap with
  | [], [] => vs.toArray
  | a, b => (a ++ vs ++ b).toArray
def Enters (P : Program) (g : FuncId) : Prop := ∀ args w, (callFunc g args).run P w = .ok (.enter g args) w
def CallV (P : Program) (g : FuncId) (args : Array Value) (rs : List Sh) (K : Value → World → Prop) (w : World) : Prop :=
  Calls P g args w fun en w' => ExR rs fun v => en = .returned v ∧ K v w'
def RunN (P : Program) (s : Sem Value) (rs : List Sh) (K : Value → World → Prop) (w : World) : Prop :=
  ExR rs fun v => ∃ w', s.run P w = .ok v w' ∧ K v w'
def RunF (P : Program) (g : FuncId) (args : Array Value) (rs : List Sh) (K : Value → World → Prop) (w : World) : Prop :=
  ExR rs fun v => ∃ w', (callFunc g args).run P w = .ok (.value v) w' ∧ K v w'
def rsOf (T : Tab) (t : Nat) : List Sh := match look T.tup t with | some l => l | none => match T.t t with | some i => [i.sh] | none => []
def elemZero (P : Program) (T : Tab) (e : Nat) : Array Value := match T.t e with | some i => zeroA P e i | none => zeroOf P e
def litCells (z : List Value) (n : Nat) : List Value := match n with | 0 => [] | n + 1 => z ++ litCells z n
def buildSliceK (T : Tab) (t n : Nat) (parts : List (Nat × Value)) (w : World) (K : Value → World → Prop) : Prop :=
  match T.t t with
  | some i => match i.idx, T.t i.elem with
    | some (none, sz), some j => match j.zero with
      | some z => match Nat.beq z.length sz && Nat.ble (n * sz) 16777216 with
        | true => match Instr.fill (fun j => some (j * sz, sz)) (litCells z n).toArray parts with
          | some cs => AllocK w cs i.elem fun b w' => K (.slice (some b) n n) w'
          | none => False
        | false => False
      | none => False
    | _, _ => False
  | none => False
def makeK (P : Program) (T : Tab) (t : Nat) (l c : Value) (w : World) (K : Value → World → Prop) : Prop :=
  match T.t t, l, c with
  | some i, .int _ l, .int _ c => match i.idx, T.t i.elem with
    | some (none, sz), some j => (0 ≤ l ∧ l ≤ c ∧ (j.bytes : Int) * c ≤ 281474976710656 ∧ c ≤ 9223372036854775807) ∧
        AllocK w (madeCells (zeroA P i.elem j) (c.toNat * sz)) i.elem fun b w' => K (.slice (some b) l.toNat c.toNat) w'
    | _, _ => False
  | _, _, _ => False
def meRs (T : Tab) (t : Nat) : List Sh := match T.t t with | some i => (match T.t i.elem with | some j => [j.sh, .one (.int .i64)] | none => []) | none => []
def effV (P : Program) (T : Tab) (o : Oper) (e : Env) (K : Value → World → Prop) (w : World) : Prop :=
  match o.op with
  | .alloc t => match T.t t with | some i => AllocK w (zeroA P t i) t fun b w' => K (.pointer (some b)) w' | none => False
  | .box t x => ofV (ev e x) fun v => AllocK w v.cells t fun b w' => K (.pointer (some b)) w'
  | .store t x y => ofV (ev e x) fun v => ptrOf v fun p => ofV (ev e y) fun u => stK T t p u w fun w' => K undef w'
  | .buildSlice t n ps => evps e ps.toList fun vs => buildSliceK T t n vs w K
  | .makeSlice t l c => ofV (ev e l) fun l => ofV (ev e c) fun c => makeK P T t l c w K
  | .call { callee := .value (.func g), args := xs, .. } => evs e xs.toList fun vs => match look T.fn g with | some rs => CallV P g vs.toArray rs K w | none => RunF P g vs.toArray (rsOf T o.type) K w
  | .call { callee := .value f, args := xs, .. } => ofV (ev e f) fun fv => match fv with
    | .func (.func g) first cap => evs e xs.toList fun vs => Enters P g ∧ CallV P g (callArgs first.toList vs cap.toList) (rsOf T o.type) K w
    | _ => False
  | .call { callee := .builtin .append, args := xs, argTypes := ts } => evs e xs.toList fun vs => RunN P (Builtin.append_ ts o.type vs.toArray) (rsOf T o.type) K w
  | .call { callee := .builtin .copy, args := xs, argTypes := ts } => evs e xs.toList fun vs => RunN P (Builtin.copy_ ts o.type vs.toArray) (rsOf T o.type) K w
  | .call { callee := .builtin .delete, args := xs, argTypes := ts } => evs e xs.toList fun vs => RunN P (Builtin.delete_ ts o.type vs.toArray) [] K w
  | .call { callee := .builtin .len, args := xs, argTypes := ts } => evs e xs.toList fun vs => RunN P (Builtin.len_ ts o.type vs.toArray) (rsOf T o.type) K w
  | .call { callee := .builtin .clear, args := xs, argTypes := ts } => evs e xs.toList fun vs => RunN P (Builtin.clear_ ts o.type vs.toArray) [] K w
  | .convert s d x => ofV (ev e x) fun v => RunN P (convert s d v) (rsOf T o.type) K w
  | .index t x i => ofV (ev e x) fun v => ofV (ev e i) fun u => RunN P (Instr.index t v u) (rsOf T o.type) K w
  | .slice t x lo hi mx => ofV (ev e x) fun v => optV e lo fun l => optV e hi fun h => optV e mx fun m => RunN P (Instr.sliceAt t v l h m) (rsOf T o.type) K w
  | .makeFunc f first cap => evs e first.toList fun a => evs e cap.toList fun b => K (.func f a.toArray b.toArray) w
  | .makeMap t r => optV e r fun r => RunN P (Instr.makeMap t r) (rsOf T o.type) K w
  | .lookup t x i ok => ofV (ev e x) fun v => ofV (ev e i) fun u => RunN P (Instr.lookup t v u ok) (rsOf T o.type) K w
  | .mapUpdate t m k x => ofV (ev e m) fun m => ofV (ev e k) fun k => ofV (ev e x) fun x => ∃ w', (Instr.mapUpdate t m k x).run P w = .ok () w' ∧ K undef w'
  | .insert t m k x => ofV (ev e m) fun m => ofV (ev e k) fun k => ofV (ev e x) fun x => ∃ w', (Instr.mapUpdate t m k x).run P w = .ok () w' ∧ K undef w'
  | .mapEntry t m k => ofV (ev e m) fun m => ofV (ev e k) fun k => RunN P (Instr.mapEntry t m k) (meRs T t) K w
  | .entryStore t m s x => ofV (ev e m) fun m => ofV (ev e s) fun s => ofV (ev e x) fun x => ∃ w', (Instr.entryStore t m s x).run P w = .ok () w' ∧ K undef w'
  | .range t x => ofV (ev e x) fun v => ∃ u w', (Instr.range t v).run P w = .ok u w' ∧ K u w'
  | .next it s => ofV (ev e it) fun v => ∃ u w', (Instr.next v s o.type).run P w = .ok u w' ∧ K u w'
  | .entry it => ofV (ev e it) fun v => ∃ u w', (Instr.entry v).run P w = .ok u w' ∧ K u w'
  | _ => False
def opV (P : Program) (T : Tab) (o : Oper) (e : Env) (K : Value → World → Prop) (w : World) : Prop :=
  match isPure T o.op with
  | true => pureV T o.op e w fun v => K v w
  | false => effV P T o e K w
def Goes (P : Program) (s : Sem Next) (K : Value → World → Prop) (w : World) : Prop :=
  (∃ v w', s.run P w = .ok (.value v) w' ∧ K v w') ∨ (∃ w', s.run P w = .ok .skip w' ∧ K undef w') ∨
  (∃ g args, s.run P w = .ok (.enter g args) w ∧ Calls P g args w fun en w' => ∃ v, en = .returned v ∧ K v w')
theorem Goes.val {P : Program} {s : Sem Value} {K : Value → World → Prop} {w : World} (h : ∃ v w', s.run P w = .ok v w' ∧ K v w') : Goes P (do pure (.value (← s))) K w := by
  obtain ⟨v, w', hr, hK⟩ := h
  exact .inl ⟨v, w', by simp [hr], hK⟩
theorem Goes.unit {P : Program} {s : Sem Unit} {K : Value → World → Prop} {w : World} (h : ∃ w', s.run P w = .ok () w' ∧ K undef w') : Goes P (do s; pure .skip) K w := by
  obtain ⟨w', hr, hK⟩ := h
  exact .inr (.inl ⟨w', by simp [hr], hK⟩)
theorem Goes.runN {P : Program} {s : Sem Value} {rs : List Sh} {K : Value → World → Prop} {w : World} (h : RunN P s rs K w) : Goes P (do pure (.value (← s))) K w := by
  obtain ⟨v, w', hr, hK⟩ := ExR_some h
  exact Goes.val ⟨v, w', hr, hK⟩
theorem CallV.goes {P : Program} {g : FuncId} {args : Array Value} {rs : List Sh} {K : Value → World → Prop} {w : World} (h : CallV P g args rs K w) :
    Calls P g args w fun en w' => ∃ v, en = .returned v ∧ K v w' :=
  Calls.mono h fun _ _ h' => ExR_some h'
theorem oneCells_all {vs : List Value} (h : oneCells vs = true) : ∀ v ∈ vs, v.oneCell' = true := by
  induction vs with
  | nil => simp
  | cons v vs ih =>
    simp only [oneCells, Bool.and_eq_true] at h
    intro u hu
    rcases List.mem_cons.1 hu with rfl | hu
    · exact h.1
    · exact ih h.2 u hu
theorem StCs_run {P : Program} {vs : List Value} : ∀ {w : World} {p : Addr} {i : Nat} {F : World → Prop}, StCs vs w p i F → (∀ v ∈ vs, v.oneCell' = true) →
    ∃ w', (storeCells p vs i).run P w = .ok () w' ∧ F w' := by
  induction vs with
  | nil => intro w p i F h _; exact ⟨w, rfl, h⟩
  | cons v vs ih =>
    intro w p i F h h1
    obtain ⟨⟨⟨u, hu⟩, hf⟩, h⟩ := h
    obtain ⟨w', hr, hF⟩ := ih h fun v hv => h1 v (List.mem_cons_of_mem _ hv)
    refine ⟨w', ?_, hF⟩
    have := run_store P w (p.add i) v .plain (h1 v List.mem_cons_self)
    simp only [storeCells, Sem.run_bind, this]
    simp [hu, hf, hr]
section
variable {P : Program} {T : Tab} (hT : T.Ok P)
theorem cells_one {u : Value} (h : u.oneCell' = true) : u.cells = #[u] := by cases u <;> first | rfl | simp [Value.oneCell'] at h
include hT in
theorem stK_run {t : Nat} {p : Addr} {u : Value} {w : World} {F : World → Prop} (h : stK T t p u w F) : ∃ w', (storeVar t p u).run P w = .ok () w' ∧ F w' := by
  unfold stK at h
  split at h
  case h_2 => exact h.elim
  rename_i i hi
  obtain ⟨hsh, _⟩ := hT.tyOk hi
  rcases shOk_cases hsh with ⟨inf, d, c, _, hj, hs', _, hz, _⟩ | ⟨inf, cs, hj, hs', hz, _, _⟩ | ⟨inf, n, hj, hs', hz, _, _⟩
  · rw [hs'] at h
    simp only [stSh, st1] at h
    split at h
    · rename_i h1
      obtain ⟨⟨⟨x, hx⟩, hf⟩, hF⟩ := h
      refine ⟨_, ?_, hF⟩
      have := run_store P w (p.add 0) u .plain h1
      have ha : p.add 0 = p := rfl
      rw [ha] at this
      simp [storeVar, sizeOf, typeInfo, hj, hz, cells_one h1, storeCells, ha, this, hx, hf]
    · exact h.elim
  · rw [hs'] at h
    obtain ⟨vs, rfl, h⟩ := aggOf_some (show aggOf u _ from h)
    dsimp only [stSh, aggOf] at h
    split at h
    · rename_i hb
      simp only [Bool.and_eq_true] at hb
      obtain ⟨w', hr, hF⟩ := StCs_run (P := P) h (oneCells_all hb.2)
      have hl := Nat.eq_of_beq_eq_true hb.1
      refine ⟨w', ?_, hF⟩
      have : vs.size = inf.size := by rw [hz, ← hl]; simp
      simp [storeVar, sizeOf, typeInfo, hj, Value.cells, this, hr]
    · exact h.elim
  · rw [hs'] at h
    obtain ⟨vs, rfl, h⟩ := aggOf_some (show aggOf u _ from h)
    obtain ⟨⟨h1, h2, h3, h4, cs, ty, h5, h6⟩, hF⟩ := h
    refine ⟨_, ?_, hF⟩
    have hp : p = ⟨p.block, 0, none⟩ := by cases p; simp_all
    rw [hp]
    refine run_storeVar_row w p.block ty t cs _ h5 ?_ (by omega) h2
    simp [hj, hz, h1]
theorem litCells_eq (z : List Value) (_hz : z ≠ []) : ∀ n, (litCells z n).toArray = (Array.range (n * z.length)).map (z.toArray[· % z.toArray.size]!) := by
  have key : ∀ n, litCells z n = (List.range (n * z.length)).map (fun k => z[k % z.length]!) := by
    intro n
    induction n with
    | zero => simp [litCells]
    | succ n ih =>
      rw [litCells, ih, show (n + 1) * z.length = z.length + n * z.length by rw [Nat.succ_mul, Nat.add_comm], List.range_add, List.map_append, List.map_map]
      congr 1
      · apply List.ext_getElem
        · simp
        · intro i h1 h2
          simp at h2
          simp [Nat.mod_eq_of_lt h2, h2]
      · apply List.map_congr_left
        intro k _
        simp
  intro n
  rw [key n]
  apply Array.ext'
  simp
include hT in
theorem buildSliceK_run {t n : Nat} {parts : List (Nat × Value)} {w : World} {K : Value → World → Prop} (h : buildSliceK T t n parts w K) :
    ∃ v w', (Instr.buildSlice t n parts.toArray).run P w = .ok v w' ∧ K v w' := by
  unfold buildSliceK at h
  split at h
  case h_2 => exact h.elim
  rename_i i hi
  obtain ⟨_, hix, _, _⟩ := hT.tyOk hi
  split at h
  case h_2 => exact h.elim
  rename_i sz j hidx hj
  obtain ⟨inf, hu, hinf, hsz⟩ := idxOk_slice hix hidx
  split at h
  case h_2 => exact h.elim
  rename_i z hz
  split at h
  case h_2 => exact h.elim
  rename_i hb
  simp only [Bool.and_eq_true] at hb
  have hzl := Nat.eq_of_beq_eq_true hb.1
  have hle := Nat.le_of_ble_eq_true hb.2
  split at h
  case h_2 => exact h.elim
  rename_i cs hcs
  refine ⟨_, _, ?_, h⟩
  obtain ⟨v, hv, hc⟩ := zero_run hT hj hz (w := w)
  by_cases h0 : n * sz = 0
  · have hl : litCells z n = [] := by
      rcases Nat.mul_eq_zero.1 h0 with h0 | h0
      · subst h0; rfl
      · have : z = [] := by cases z with | nil => rfl | cons _ _ => simp at hzl; omega
        subst this
        have key : ∀ n, litCells [] n = [] := by
          intro n
          induction n with
          | zero => rfl
          | succ n ih => simp [litCells, ih]
        exact key n
    rw [hl] at hcs
    have hr0 : (Array.map (fun _ => (default : Value)) (Array.range 0)) = #[] := by apply Array.ext'; simp
    simp [Instr.buildSlice, run_underlying hu, sizeOf, typeInfo, hinf, hsz, h0, newRow, show ¬ (16777216 < 0) by omega]
    rw [hr0, hcs]
    simp
  · have hne : z ≠ [] := by rintro rfl; simp at hzl; subst hzl; simp at h0
    have hl := litCells_eq z hne n
    rw [hzl] at hl
    rw [hl] at hcs
    have hng' : ¬ (16777216 < n * sz) := by omega
    simp [Instr.buildSlice, run_underlying hu, sizeOf, typeInfo, hinf, hsz, hng', h0, hv, hc, newRow]
    simp at hcs
    simp [hcs]
include hT in
theorem makeK_run {t : Nat} {l c : Value} {w : World} {K : Value → World → Prop} (h : makeK P T t l c w K) :
    ∃ v w', (Instr.makeSlice t l c).run P w = .ok v w' ∧ K v w' := by
  unfold makeK at h
  split at h
  case h_2 => exact h.elim
  rename_i i kl l kc c hi
  obtain ⟨_, hix, _, _⟩ := hT.tyOk hi
  split at h
  case h_2 => exact h.elim
  rename_i sz j hidx hj
  obtain ⟨inf, hu, hinf, hsz⟩ := idxOk_slice hix hidx
  obtain ⟨hsh, _, _, hby⟩ := hT.tyOk hj
  obtain ⟨⟨h0, h1, h2, h3⟩, hK⟩ := h
  have hzz : inf.zero.isSome = true := by
    rcases shOk_cases hsh with ⟨inf', _, _, _, hj', _, _, _, hzz, _⟩ | ⟨inf', _, hj', _, _, hzz, _⟩ | ⟨inf', _, hj', _, _, hzz, _⟩ <;> (rw [hinf] at hj'; cases hj'; exact hzz)
  obtain ⟨z, hz⟩ := Option.isSome_iff_exists.1 hzz
  have hb : inf.bytes = j.bytes := by
    unfold bytesOk at hby
    rw [hinf] at hby
    exact Nat.eq_of_beq_eq_true hby
  have hzc : zeroA P i.elem j = z.cells := by
    have h0 : zeroOf P i.elem = z.cells := by simp [zeroOf, hinf, hz]
    unfold zeroA
    split
    · rename_i l hl; rw [← hT.zero _ _ _ hj hl, h0]
    · exact h0
  refine ⟨_, _, run_make (P := P) w t i.elem inf z hu hinf hz kl kc l c h0 h1 (by rw [hb]; exact h2) h3, ?_⟩
  rw [hsz, ← hzc]
  exact hK
include hT in
theorem opV_sound {N : Nat} {a : Act} {e : Env} (hA : Ag N a e) {o : Oper} {K : Value → World → Prop} {w : World} (h : opV P T o e K w) :
    Goes P (execOp a.eval o) K w := by
  unfold opV at h
  split at h
  · obtain ⟨v, hF, hr⟩ := pureV_sound hT hA h
    exact .inl ⟨v, w, hr w (Cel.refl _), hF⟩
  rename_i hpure
  clear hpure
  obtain ⟨dst, op, type, pos, after, guard⟩ := o
  cases op <;> simp only [effV] at h <;> simp only [execOp]
  case alloc t =>
    split at h
    · rename_i i hi
      obtain ⟨hsh, _⟩ := hT.tyOk hi
      have hzz : ∃ inf, P.info? t = some inf ∧ inf.zero.isSome = true := by
        rcases shOk_cases hsh with ⟨inf', _, _, _, hj', _, _, _, hzz, _⟩ | ⟨inf', _, hj', _, _, hzz, _⟩ | ⟨inf', _, hj', _, _, hzz, _⟩ <;> exact ⟨_, hj', hzz⟩
      obtain ⟨inf, hinf, hzz⟩ := hzz
      obtain ⟨z, hz⟩ := Option.isSome_iff_exists.1 hzz
      have hzc : zeroA P t i = z.cells := by
        have h0 : zeroOf P t = z.cells := by simp [zeroOf, hinf, hz]
        unfold zeroA
        split
        · rename_i l hl; rw [← hT.zero _ _ _ hi hl, h0]
        · exact h0
      rw [hzc] at h
      exact Goes.val ⟨_, _, by simp [Instr.alloc, zeroValue, typeInfo, hinf, hz, newVar, newRow], h⟩
    · exact h.elim
  case box t x =>
    obtain ⟨v, hx, hK⟩ := ofV_some h
    exact Goes.val ⟨_, _, by simp [ev_eval hA hx, Instr.box, newVar, newRow], hK⟩
  case store t x y =>
    obtain ⟨v, hx, h⟩ := ofV_some h
    obtain ⟨p, rfl, h⟩ := ptrOf_some h
    obtain ⟨u, hy, h⟩ := ofV_some h
    obtain ⟨w', hr, hK⟩ := stK_run hT h
    exact Goes.unit ⟨w', by simp [ev_eval hA hx, ev_eval hA hy, Instr.storeAt, Instr.sureAddr, hr], hK⟩
  case buildSlice t n ps =>
    have h := evps_eval hA h
    have := Goes.val (buildSliceK_run hT h)
    rw [show (ps.map fun x => (x.1, a.eval x.2)) = (ps.toList.map fun (i, x) => (i, a.eval x)).toArray by apply Array.ext'; simp]
    exact this
  case makeSlice t l c =>
    obtain ⟨lv, hl, h⟩ := ofV_some h
    obtain ⟨cv, hc, h⟩ := ofV_some h
    have := Goes.val (makeK_run hT h)
    simpa [ev_eval hA hl, ev_eval hA hc] using this
  case convert s d x =>
    obtain ⟨v, hx, h⟩ := ofV_some h
    have := Goes.runN h
    simpa [ev_eval hA hx] using this
  case index t x i =>
    obtain ⟨v, hx, h⟩ := ofV_some h
    obtain ⟨u, hi, h⟩ := ofV_some h
    have := Goes.runN h
    simpa [ev_eval hA hx, ev_eval hA hi] using this
  case slice t x lo hi mx =>
    obtain ⟨v, hx, h⟩ := ofV_some h
    have ho : ∀ {y : Option Operand} {F : Option Value → Prop}, optV e y F → F (y.map a.eval) := by
      intro y F h
      cases y with
      | none => exact h
      | some y => obtain ⟨u, hy, h⟩ := ofV_some (show ofV (ev e y) _ from h); simpa [ev_eval hA hy] using h
    have := Goes.runN (ho (ho (ho h)))
    simpa [ev_eval hA hx] using this
  case makeFunc f first cap =>
    have h := evs_eval hA (evs_eval hA h)
    rw [amap, amap] at h
    exact Goes.val ⟨_, w, rfl, h⟩
  case makeMap t r =>
    have ho : ∀ {y : Option Operand} {F : Option Value → Prop}, optV e y F → F (y.map a.eval) := by
      intro y F h
      cases y with
      | none => exact h
      | some y => obtain ⟨u, hy, h⟩ := ofV_some (show ofV (ev e y) _ from h); simpa [ev_eval hA hy] using h
    have := Goes.runN (ho h)
    simpa using this
  case lookup t x i ok =>
    obtain ⟨v, hx, h⟩ := ofV_some h
    obtain ⟨u, hi, h⟩ := ofV_some h
    have := Goes.runN h
    simpa [ev_eval hA hx, ev_eval hA hi] using this
  case mapUpdate t m k x =>
    obtain ⟨m', hm, h⟩ := ofV_some h
    obtain ⟨k', hk, h⟩ := ofV_some h
    obtain ⟨x', hx, h⟩ := ofV_some h
    have := Goes.unit h
    simpa [ev_eval hA hm, ev_eval hA hk, ev_eval hA hx] using this
  case insert t m k x =>
    obtain ⟨m', hm, h⟩ := ofV_some h
    obtain ⟨k', hk, h⟩ := ofV_some h
    obtain ⟨x', hx, h⟩ := ofV_some h
    have := Goes.unit h
    simpa [ev_eval hA hm, ev_eval hA hk, ev_eval hA hx] using this
  case mapEntry t m k =>
    obtain ⟨m', hm, h⟩ := ofV_some h
    obtain ⟨k', hk, h⟩ := ofV_some h
    have := Goes.runN h
    simpa [ev_eval hA hm, ev_eval hA hk] using this
  case entryStore t m s x =>
    obtain ⟨m', hm, h⟩ := ofV_some h
    obtain ⟨k', hk, h⟩ := ofV_some h
    obtain ⟨x', hx, h⟩ := ofV_some h
    have := Goes.unit h
    simpa [ev_eval hA hm, ev_eval hA hk, ev_eval hA hx] using this
  case range t x =>
    obtain ⟨v, hx, h⟩ := ofV_some h
    have := Goes.val h
    simpa [ev_eval hA hx] using this
  case next it s =>
    obtain ⟨v, hx, h⟩ := ofV_some h
    have := Goes.val h
    simpa [ev_eval hA hx] using this
  case entry it =>
    obtain ⟨v, hx, h⟩ := ofV_some h
    have := Goes.val h
    simpa [ev_eval hA hx] using this
  case call c =>
    obtain ⟨callee, xs, ts⟩ := c
    cases callee with
    | invoke r m => exact h.elim
    | builtin b =>
      cases b <;> simp only at h
      case append => have := Goes.runN (evs_eval hA h); rw [amap] at this; simpa [resolve, invoke, builtin] using this
      case copy => have := Goes.runN (evs_eval hA h); rw [amap] at this; simpa [resolve, invoke, builtin] using this
      case delete => have := Goes.runN (evs_eval hA h); rw [amap] at this; simpa [resolve, invoke, builtin] using this
      case len => have := Goes.runN (evs_eval hA h); rw [amap] at this; simpa [resolve, invoke, builtin] using this
      case clear => have := Goes.runN (evs_eval hA h); rw [amap] at this; simpa [resolve, invoke, builtin] using this
      all_goals exact h.elim
    | value f =>
      have gen : ∀ {fv : Value}, ev e f = some fv → (match fv with
          | .func (.func g) first cap => evs e xs.toList fun vs => Enters P g ∧ CallV P g (callArgs first.toList vs cap.toList) (rsOf T type) K w
          | _ => False) → Goes P (do let d ← resolve a.eval { callee := .value f, args := xs, argTypes := ts } type; invoke d.target d.args) K w := by
        intro fv hf h
        split at h
        · rename_i g first cap
          obtain ⟨hen, h⟩ := evs_eval hA h
          refine .inr (.inr ⟨g, _, ?_, h.goes⟩)
          simp only [resolve, ev_eval hA hf, Deferred.ofValue, invoke, Sem.run_bind, Sem.run_pure, Result.andThen_ok]
          rw [hen]
          congr 2
          unfold callArgs
          split
          · rename_i h1 h2
            have e1 : first = #[] := by apply Array.ext'; simpa using h1
            have e2 : cap = #[] := by apply Array.ext'; simpa using h2
            subst e1; subst e2; apply Array.ext'; simp
          · apply Array.ext'; simp
        · exact h.elim
      cases f with
      | func g =>
        simp only at h
        have h := evs_eval hA h
        split at h
        · rename_i rs hrs
          refine .inr (.inr ⟨g, _, ?_, h.goes⟩)
          simp only [resolve, Act.eval, Deferred.ofValue, invoke, Sem.run_bind, Sem.run_pure, Result.andThen_ok]
          rw [hT.fn g rs hrs]
          congr 2
          apply Array.ext'; simp
        · obtain ⟨v, w', hr, hK⟩ := ExR_some h
          refine .inl ⟨v, w', ?_, hK⟩
          simp only [resolve, Act.eval, Deferred.ofValue, invoke, Sem.run_bind, Sem.run_pure, Result.andThen_ok]
          rw [← hr]
          congr 2
          apply Array.ext'; simp
      | tmp t => simp only at h; obtain ⟨fv, hf, h⟩ := ofV_some h; exact gen hf h
      | const v => simp only at h; obtain ⟨fv, hf, h⟩ := ofV_some h; exact gen hf h
      | global g => simp only at h; obtain ⟨fv, hf, h⟩ := ofV_some h; exact gen hf h
  all_goals exact h.elim
end
end Go.V

namespace Go.V
open Go.RowKit (Below)
structure Same (D : Nat → Bool) (a a' : Act) : Prop where
  slot : ∀ t, D t = false → a'.tmps.getD t undef = a.tmps.getD t undef
  defers : a'.defers = a.defers
theorem Same.refl (D : Nat → Bool) (a : Act) : Same D a a := ⟨fun _ _ => rfl, rfl⟩
theorem Same.trans {D : Nat → Bool} {a b c : Act} (h : Same D a b) (k : Same D b c) : Same D a c := ⟨fun t ht => (k.slot t ht).trans (h.slot t ht), k.defers.trans h.defers⟩
theorem Same.mono {D D' : Nat → Bool} {a b : Act} (h : Same D a b) (hD : ∀ t, D' t = false → D t = false) : Same D' a b := ⟨fun t ht => h.slot t (hD t ht), h.defers⟩
theorem Same.put {D : Nat → Bool} {a b : Act} (h : Same D a b) (d : Option Nat) (v : Value) (hd : ∀ t, d = some t → D t = true) : Same D a (b.put d v) := by
  cases d with
  | none => exact h
  | some u =>
    refine ⟨fun t ht => ?_, h.defers⟩
    have hne : u ≠ t := by intro e; subst e; rw [hd u rfl] at ht; cases ht
    rw [← h.slot t ht]
    simp [Act.put, Array.getElem?_setIfInBounds_ne hne]
def guardV (ops : Array Oper) (g : Option (Nat × Bool)) (e : Env) (X Y : Env → Prop) : Prop :=
  match g with
  | none => X e
  | some (j, want) => match (ops[j]?).bind (·.dst) with
    | none => False
    | some t => match get e t with
      | some (.bool b) => BoolK b (bif want then X ((t, .bool true) :: e) else Y ((t, .bool true) :: e)) (bif want then Y ((t, .bool false) :: e) else X ((t, .bool false) :: e))
      | some (.tuple _) => Y e
      | _ => False
theorem Ag.more {N : Nat} {a : Act} {e : Env} (h : Ag N a e) {t : Nat} {v : Value} (hv : a.tmps.getD t undef = v) : Ag N a ((t, v) :: e) := by
  refine ⟨h.size, fun u x hx => ?_⟩
  by_cases htu : t = u
  · subst htu; rw [get_cons_same] at hx; cases hx; exact hv
  · rw [get_cons_ne htu] at hx; exact h.at_ u x hx
theorem guardV_sound {N : Nat} {a : Act} {e : Env} {ops : Array Oper} {o : Oper} {X Y : Env → Prop} (hA : Ag N a e) (h : guardV ops o.guard e X Y) :
    ∃ e', Ag N a e' ∧ ((Region.wanted o (yielded ops a.tmps) = true ∧ X e') ∨ (Region.wanted o (yielded ops a.tmps) = false ∧ Y e')) := by
  unfold guardV at h
  unfold Region.wanted
  split at h
  · rename_i hg; rw [hg]; exact ⟨e, hA, .inl ⟨rfl, h⟩⟩
  · rename_i j want hg
    rw [hg]
    split at h
    · exact h.elim
    · rename_i t ht
      split at h
      · rename_i b hb
        have hv := hA.at_ t _ hb
        have hy : yielded ops a.tmps j = some b := by
          unfold yielded
          rw [ht]
          have : a.tmps[t]? = some (.bool b) := by
            cases hq : a.tmps[t]? with
            | none => rw [Array.getD_eq_getD_getElem?, hq] at hv; simp [undef] at hv
            | some x => rw [Array.getD_eq_getD_getElem?, hq] at hv; simp at hv; rw [hv]
          simp [this]
        simp only [hy]
        cases b with
        | true =>
          refine ⟨_, hA.more hv, ?_⟩
          cases want
          · exact .inr ⟨rfl, h⟩
          · exact .inl ⟨rfl, h⟩
        | false =>
          refine ⟨_, hA.more hv, ?_⟩
          cases want
          · exact .inl ⟨rfl, h⟩
          · exact .inr ⟨rfl, h⟩
      · rename_i vs hb
        have hv := hA.at_ t _ hb
        have hy : yielded ops a.tmps j = none := by
          unfold yielded
          rw [ht]
          cases hq : a.tmps[t]? with
          | none => simp [hq]
          | some x => rw [Array.getD_eq_getD_getElem?, hq] at hv; simp at hv; subst hv; simp [hq]
        simp only [hy]
        exact ⟨e, hA, .inr ⟨rfl, h⟩⟩
      · exact h.elim
theorem Goes.wp {P : Program} {o : Oper} {a : Act} {K : Value → World → Prop} {w : World} (h : Goes P (execOp a.eval o) K w) {next : Act → World → Prop} {Q : Exit → Act → World → Prop}
    (hn : ∀ v w', K v w' → next (a.put o.dst v) w') : o.wp P a w next Q := by
  unfold Oper.wp
  rcases h with ⟨v, w', hr, hK⟩ | ⟨w', hr, hK⟩ | ⟨g, args, hr, hc⟩
  · rw [hr]; exact hn _ _ hK
  · rw [hr]; exact hn _ _ hK
  · rw [hr]
    refine Calls.mono hc fun en w' h => ?_
    obtain ⟨v, rfl, hK⟩ := h
    exact hn _ _ hK
def opsV (P : Program) (T : Tab) (ops : Array Oper) : List Oper → Env → (Env → World → Prop) → World → Prop
  | [], e, K, w => K e w
  | o :: os, e, K, w => guardV ops o.guard e (fun e => opV P T o e (fun v w' => opsV P T ops os (setD e o.dst v) K w') w) (fun e => opsV P T ops os (setD e o.dst undef) K w)
def Within (N : Nat) (D : Nat → Bool) (os : List Oper) : Prop := ∀ o ∈ os, ∀ t, o.dst = some t → t < N ∧ D t = true
section
variable {P : Program} {T : Tab} (hT : T.Ok P)
include hT in
theorem opsV_sound {N : Nat} {D : Nat → Bool} {ops : Array Oper} {K : Env → World → Prop} {Q : Exit → Act → World → Prop} {a0 : Act} :
    ∀ (os : List Oper) (a : Act) (e : Env) (w : World), Within N D os → Ag N a e → Same D a0 a → opsV P T ops os e K w →
      (∀ a e w, Ag N a e → Same D a0 a → K e w → Q .normal a w) → wpList P ops Q os a w
  | [], a, e, w, _, hA, hS, h, hQ => hQ a e w hA hS h
  | o :: os, a, e, w, hW, hA, hS, h, hQ => by
    have hWo := hW o List.mem_cons_self
    have hWs : Within N D os := fun o' ho' => hW o' (List.mem_cons_of_mem _ ho')
    obtain ⟨e', hA', h⟩ := guardV_sound hA h
    unfold wpList
    rcases h with ⟨hw, h⟩ | ⟨hw, h⟩
    · rw [if_pos hw]
      refine .inl ((opV_sound hT hA' h).wp fun v w' hK => ?_)
      exact opsV_sound os _ _ _ hWs (hA'.put _ _ fun t ht => (hWo t ht).1) (hS.put _ _ fun t ht => (hWo t ht).2) hK hQ
    · rw [if_neg (by simp [hw])]
      exact opsV_sound os _ _ _ hWs (hA'.put _ _ fun t ht => (hWo t ht).1) (hS.put _ _ fun t ht => (hWo t ht).2) h hQ
end
/-! ### Whatever order -/
def waitsB (ops : Array Oper) (j i : Nat) : Bool := match ops[j]? with | some o => o.after.toList.any fun e => Region.binds .any e && Nat.beq e.on i | none => false
theorem waitsB_spec {ops : Array Oper} {j i : Nat} (h : waitsB ops j i = true) : ∃ o, ops[j]? = some o ∧ ∃ e ∈ o.after, Region.binds .any e = true ∧ e.on = i := by
  unfold waitsB at h
  split at h
  · rename_i o ho
    obtain ⟨e, he, hb⟩ := List.any_eq_true.1 h
    simp only [Bool.and_eq_true] at hb
    exact ⟨o, ho, e, by simpa using he, hb.1, Nat.eq_of_beq_eq_true hb.2⟩
  · cases h
def tailB (ops : Array Oper) (n : Nat) : Bool :=
  ((List.range n).all fun i => (List.range (n + 1)).any fun j => Nat.blt i j && waitsB ops j i) &&
  ((List.range ops.size).all fun t => Nat.ble t n || (List.range t).any fun j => Nat.ble n j && waitsB ops t j)
structure Inv (ops : Array Oper) (n : Nat) (listed : Array Bool) : Prop where
  size : listed.size = ops.size
  down : ∀ j o, ops[j]? = some o → listed.getD j false = true → ∀ e ∈ o.after, Region.binds .any e = true → listed.getD e.on false = true
  tail : ∀ t, n ≤ t → listed.getD t false = false
theorem unB {listed : Array Bool} {i : Nat} (h : listed.getD i true = false) : listed.getD i false = false := by
  cases hq : listed[i]? with
  | none => rw [Array.getD_eq_getD_getElem?, hq] at h; cases h
  | some b => rw [Array.getD_eq_getD_getElem?, hq] at h ⊢; exact h
theorem ready_lt {ops : Array Oper} {listed : Array Bool} {i : Nat} (h : i ∈ Region.ready .any ops listed) : i < listed.size := by
  have := (mem_ready.1 h).1
  rcases Nat.lt_or_ge i listed.size with h' | h'
  · exact h'
  · rw [Array.getD_eq_getD_getElem?, Array.getElem?_eq_none h'] at this; cases this
theorem Inv.set {ops : Array Oper} {n i : Nat} {listed : Array Bool} (inv : Inv ops n listed) (hi : i ∈ Region.ready .any ops listed) (hin : i < n) : Inv ops n (listed.setIfInBounds i true) := by
  obtain ⟨_, oi, hoi, hall⟩ := mem_ready.1 hi
  refine ⟨by simp [inv.size], fun j o hj hl e he hb => ?_, fun t ht => by rw [getD_set_ne false (by omega)]; exact inv.tail t ht⟩
  by_cases hij : i = j
  · subst hij
    rw [hoi] at hj; cases hj
    exact getD_set_true (hall e he hb)
  · rw [getD_set_ne false hij] at hl
    exact getD_set_true (inv.down j o hj hl e he hb)
theorem tail_not_ready {ops : Array Oper} {n : Nat} {listed : Array Bool} (hB : tailB ops n = true) (inv : Inv ops n listed) :
    ∀ (d i : Nat), n - i = d → i < n → listed.getD i false = false → ∀ t, n ≤ t → t ∉ Region.ready .any ops listed := by
  simp only [tailB, Bool.and_eq_true] at hB
  obtain ⟨hs, hc⟩ := hB
  intro d
  induction d using Nat.strongRecOn with
  | _ d ih =>
    intro i hd hi hu t ht hr
    obtain ⟨_, ot, hot, hall⟩ := mem_ready.1 hr
    rcases Nat.lt_or_ge n t with hnt | hnt
    · have h1 := List.all_eq_true.1 hc t (List.mem_range.2 (Array.getElem?_eq_some_iff.1 hot).1)
      simp only [Bool.or_eq_true] at h1
      rcases h1 with h1 | h1
      · have := Nat.le_of_ble_eq_true h1; omega
      · obtain ⟨j0, _, h1⟩ := List.any_eq_true.1 h1
        simp only [Bool.and_eq_true] at h1
        have hnj := Nat.le_of_ble_eq_true h1.1
        obtain ⟨o', ho', e, he, hb, hon⟩ := waitsB_spec h1.2
        rw [hot] at ho'; cases ho'
        have h2 := hall e he hb
        rw [hon, inv.tail j0 hnj] at h2
        cases h2
    · have htn : t = n := by omega
      subst htn
      have h1 := List.all_eq_true.1 hs i (List.mem_range.2 hi)
      obtain ⟨j, hj, hj2⟩ := List.any_eq_true.1 h1
      simp only [Bool.and_eq_true] at hj2
      have hij : i < j := by have := hj2.1; simpa [Nat.blt_eq] using this
      have hjle : j ≤ t := by have := List.mem_range.1 hj; omega
      obtain ⟨oj, hoj, e, he, hb, hon⟩ := waitsB_spec hj2.2
      by_cases hjt : j = t
      · subst hjt
        rw [hoj] at hot; cases hot
        have h2 := hall e he hb
        rw [hon, hu] at h2
        cases h2
      · cases hl : listed.getD j false with
        | true =>
          have h2 := inv.down j oj hoj hl e he hb
          rw [hon, hu] at h2
          cases h2
        | false => exact ih (t - j) (by omega) j rfl (by omega) hl t (Nat.le_refl _) hr
inductive Plan where
  | done | take (i : Nat) (p : Plan) | one (i : Nat) (p : Plan) | both (i : Nat) (p q : Plan)
def Plan.depth : Plan → Nat
  | .done => 0
  | .take _ p | .one _ p => p.depth + 1
  | .both _ p _ => p.depth + 1
def listEq : List Nat → List Nat → Bool
  | [], [] => true
  | a :: x, b :: y => Nat.beq a b && listEq x y
  | _, _ => false
theorem listEq_eq {x : List Nat} : ∀ {y : List Nat}, listEq x y = true → x = y := by
  induction x with
  | nil => intro y h; cases y <;> simp [listEq] at h; rfl
  | cons a x ih =>
    intro y h
    cases y with
    | nil => simp [listEq] at h
    | cons b y => simp only [listEq, Bool.and_eq_true] at h; rw [Nat.eq_of_beq_eq_true h.1, ih h.2]
def memB (i : Nat) : List Nat → Bool
  | [] => false
  | a :: x => Nat.beq a i || memB i x
theorem memB_mem {i : Nat} {x : List Nat} (h : memB i x = true) : i ∈ x := by
  induction x with
  | nil => cases h
  | cons a x ih =>
    simp only [memB, Bool.or_eq_true] at h
    rcases h with h | h
    · rw [Nat.eq_of_beq_eq_true h]; exact List.mem_cons_self
    · exact List.mem_cons_of_mem _ (ih h)
def planOk (T : Tab) (ops : Array Oper) (n : Nat) : Plan → Array Bool → Option (List Nat) → Bool
  | .done, listed, none => (List.range n).all fun i => listed.getD i false
  | .done, _, some _ => false
  | .take i p, listed, none => Nat.blt i n && memB i (Region.ready .any ops listed) && Region.free .any ops listed i && (match ops[i]? with | some o => isPure T o.op | none => false) && planOk T ops n p (listed.setIfInBounds i true) none
  | .take _ _, _, some _ => false
  | .one i p, listed, rs => Nat.blt i n && listEq (rs.getD (Region.ready .any ops listed)) [i] && planOk T ops n p (listed.setIfInBounds i true) none
  | .both i p q, listed, rs => Nat.blt i n && (match rs.getD (Region.ready .any ops listed) with | j :: r => Nat.beq j i && planOk T ops n q listed (some r) | [] => false) && Nat.beq (p.depth + 1) q.depth && planOk T ops n p (listed.setIfInBounds i true) none
def cndK (b : Bool) (X Y : Prop) : Prop := match b with | true => Y | false => X ∧ Y
def anyV (P : Program) (T : Tab) (ops : Array Oper) (w0 : World) (cl : Nat → Bool) (S : World → Prop) : Plan → Env → (Env → World → Prop) → World → Prop
  | .done, e, K, w => K e w
  | .take i p, e, K, w => match ops[i]? with
    | some o => guardV ops o.guard e (fun e => pureV T o.op e w0 fun v => anyV P T ops w0 cl S p (setD e o.dst v) K w) (fun e => anyV P T ops w0 cl S p (setD e o.dst undef) K w)
    | none => False
  | .one i p, e, K, w => match ops[i]? with
    | some o => guardV ops o.guard e (fun e => opV P T o e (fun v w' => cndK (cl i) (S w') (anyV P T ops w0 cl S p (setD e o.dst v) K w')) w) (fun e => anyV P T ops w0 cl S p (setD e o.dst undef) K w)
    | none => False
  | .both i p q, e, K, w => (match ops[i]? with
    | some o => guardV ops o.guard e (fun e => opV P T o e (fun v w' => cndK (cl i) (S w') (anyV P T ops w0 cl S p (setD e o.dst v) K w')) w) (fun e => anyV P T ops w0 cl S p (setD e o.dst undef) K w)
    | none => False) ∧ anyV P T ops w0 cl S q e K w
def noTake : Plan → Bool
  | .done => true
  | .take _ _ => false
  | .one _ p => noTake p
  | .both _ p q => noTake p && noTake q
def unl (n : Nat) (listed : Array Bool) : Nat := ((List.range n).filter fun i => !listed.getD i false).length
theorem unl_set {n i : Nat} {listed : Array Bool} (hi : i < n) (hs : i < listed.size) (hu : listed.getD i false = false) : unl n listed = unl n (listed.setIfInBounds i true) + 1 := by
  unfold unl
  induction n with
  | zero => omega
  | succ n ih =>
    rw [List.range_succ, List.filter_append, List.filter_append, List.length_append, List.length_append]
    by_cases hin : i = n
    · subst hin
      have h1 : ((List.range i).filter fun j => !listed.getD j false) = ((List.range i).filter fun j => !(listed.setIfInBounds i true).getD j false) := by
        apply List.filter_congr
        intro j hj
        rw [getD_set_ne false (by have := List.mem_range.1 hj; omega)]
      rw [h1]
      have h2 : (listed.setIfInBounds i true).getD i false = true := by simp [hs]
      simp only [List.filter_cons, List.filter_nil, hu, h2, Bool.not_false, Bool.not_true, if_true, Bool.false_eq_true, if_false, List.length_cons, List.length_nil]
    · have := ih (by omega)
      rw [this]
      simp only [List.filter_cons, List.filter_nil, getD_set_ne false hin]
      omega
theorem unl_zero {n : Nat} {listed : Array Bool} (h : unl n listed = 0) : ∀ i, i < n → listed.getD i false = true := by
  intro i hi
  unfold unl at h
  rw [List.length_eq_zero_iff, List.filter_eq_nil_iff] at h
  have := h i (List.mem_range.2 hi)
  simpa using this
theorem unl_pos {n : Nat} {listed : Array Bool} (h : unl n listed ≠ 0) : ∃ i, i < n ∧ listed.getD i false = false := by
  unfold unl at h
  have h1 : 0 < ((List.range n).filter fun i => !listed.getD i false).length := by omega
  obtain ⟨i, hi⟩ := List.exists_mem_of_length_pos h1
  rw [List.mem_filter, List.mem_range] at hi
  exact ⟨i, hi.1, by simpa using hi.2⟩
section
variable {P : Program} {ops : Array Oper} {Q : Exit → Act → World → Prop} {n : Nat} {S : Nat → World → World → Prop} {R : World → Prop} {L : Act → World → Prop}
def wpN (P : Program) (ops : Array Oper) (Q : Exit → Act → World → Prop) (S : Nat → World → World → Prop) (L : Act → World → Prop) : Nat → Array Bool → Act → World → Prop
  | 0, _, a, w => L a w
  | f + 1, listed, a, w => Region.ready .any ops listed ≠ [] ∧ ∀ i ∈ Region.ready .any ops listed, wpOp P ops Q i (fun a' w' => S i w w' ∧ wpN P ops Q S L f (listed.setIfInBounds i true) a' w') a w
def TailWaits (ops : Array Oper) (n : Nat) : Prop := n = ops.size ∨ (n < ops.size ∧ tailB ops n = true)
theorem ready_head (ht : TailWaits ops n) {listed : Array Bool} (inv : Inv ops n listed) {i : Nat} (hi : i < n) (hu : listed.getD i false = false) {j : Nat} (hj : j ∈ Region.ready .any ops listed) : j < n := by
  rcases ht with rfl | ⟨_, hB⟩
  · obtain ⟨_, o, ho, _⟩ := mem_ready.1 hj
    exact (Array.getElem?_eq_some_iff.1 ho).1
  · rcases Nat.lt_or_ge j n with h | h
    · exact h
    · exact absurd hj (tail_not_ready hB inv _ i rfl hi hu j h)
theorem wpAny_of_N (ht : TailWaits ops n) {g : Nat} (hL : ∀ listed a w, Inv ops n listed → unl n listed = 0 → L a w → wpAny P .any ops Q g listed a w) :
    ∀ (f : Nat) (listed : Array Bool) (a : Act) (w : World), Inv ops n listed → unl n listed = f → wpN P ops Q S L f listed a w → wpAny P .any ops Q (f + g) listed a w
  | 0, listed, a, w, inv, hu, h => by rw [Nat.zero_add]; exact hL _ _ _ inv hu h
  | f + 1, listed, a, w, inv, hu, h => by
    rw [show f + 1 + g = (f + g) + 1 by omega]
    refine ⟨fun h0 => absurd h0 h.1, fun i hi => ?_⟩
    obtain ⟨k, hk, hku⟩ := unl_pos (by omega : unl n listed ≠ 0)
    have hin := ready_head ht inv hk hku hi
    have hun := unB (mem_ready.1 hi).1
    have hsz := ready_lt hi
    refine wpOp_mono (fun a' w' h' => wpAny_of_N ht hL f _ a' w' (inv.set hi hin) ?_ h'.2) (h.2 i hi)
    have := unl_set hin hsz hun
    omega
theorem wpN_first (ht : TailWaits ops n) {i : Nat} {oi : Oper} {v : Value} (hi : ops[i]? = some oi) (hsel : ∀ (j : Nat) (o : Oper) cs b, ops[j]? = some o → o.op ≠ .select cs b)
    (hQ : ∀ c a w, Q (.panic c) (a.put oi.dst v) w → Q (.panic c) a w) (hSi : ∀ w, R w → S i w w)
    (hSR : ∀ (j : Nat) (listed : Array Bool), Inv ops n listed → j ∈ Region.ready .any ops listed → j < n → j ≠ i → listed.getD i false = false → ∀ w w', R w → S j w w' → R w') :
    ∀ (f : Nat) (listed : Array Bool) (a : Act) (w : World), Inv ops n listed → unl n listed = f + 1 → i < n →
      (∀ j oj, ops[j]? = some oj → j ≠ i → listed.getD j true = false → (∀ e ∈ oj.after, Region.binds .any e = true → e.on ≠ i) → oi.apart ops oj = true) →
      i ∈ Region.ready .any ops listed → YieldsIf P ops R oi v a → R w →
      wpN P ops Q S L f (listed.setIfInBounds i true) (a.put oi.dst v) w → wpN P ops Q S L (f + 1) listed a w := by
  intro f
  induction f with
  | zero =>
    intro listed a w inv hu hin _ hr hy hS H
    refine ⟨(fun h => by rw [h] at hr; cases hr), fun j hj => ?_⟩
    have hui := unB (mem_ready.1 hr).1
    have hjn := ready_head ht inv hin hui hj
    by_cases hji : j = i
    · subst hji; exact hy.wpOp hi hS ⟨hSi w hS, H⟩
    · exfalso
      have hsz : ∀ k, k < n → k < listed.size := fun k hk => by
        rw [inv.size]
        rcases ht with rfl | ⟨h, _⟩ <;> omega
      have h1 := unl_set hin (hsz i hin) hui
      have h2 := unl_zero (by omega : unl n (listed.setIfInBounds i true) = 0) j hjn
      rw [getD_set_ne false (Ne.symm hji)] at h2
      rw [unB (mem_ready.1 hj).1] at h2
      cases h2
  | succ f ih =>
    intro listed a w inv hu hin hfree hr hy hS H
    refine ⟨(fun h => by rw [h] at hr; cases hr), fun j hj => ?_⟩
    have hui := unB (mem_ready.1 hr).1
    have hjn := ready_head ht inv hin hui hj
    by_cases hji : j = i
    · subst hji; exact hy.wpOp hi hS ⟨hSi w hS, H⟩
    · have h1 := H.2 j (ready_mono hj hji)
      obtain ⟨hjun, oj, hoj, hall⟩ := mem_ready.1 hj
      have hnot : ∀ e ∈ oj.after, Region.binds .any e = true → e.on ≠ i := fun e he hb heq => by
        have h1 := hall e he hb
        rw [heq, hui] at h1
        cases h1
      have h2 := wpOp_putIf hoj (hfree j oj hoj hji hjun hnot) (fun cs b => hsel i oi cs b hi) (fun cs b => hsel j oj cs b hoj) hQ hy h1
      have hfree' : ∀ k ok, ops[k]? = some ok → k ≠ i → (listed.setIfInBounds j true).getD k true = false →
          (∀ e ∈ ok.after, Region.binds .any e = true → e.on ≠ i) → oi.apart ops ok = true := fun k ok hk hki hun hno => by
        refine hfree k ok hk hki ?_ hno
        by_cases hjk : j = k
        · subst hjk; exact hjun
        · rw [getD_set_ne true hjk] at hun; exact hun
      have hjs : j < listed.size := by rw [inv.size]; exact (Array.getElem?_eq_some_iff.1 hoj).1
      have hu' := unl_set hjn hjs (unB hjun)
      refine wpOp_mono (fun a' w' h3 => ⟨h3.2.1, ih (listed.setIfInBounds j true) a' w' (inv.set hj hjn) (by omega) hin hfree' (ready_mono hr (Ne.symm hji)) h3.1 (hSR j listed inv hj hjn hji hui w w' hS h3.2.1) ?_⟩) h2
      rw [Array.setIfInBounds_comm _ _ hji]
      exact h3.2.2
end
/-! ### What must have come up ahead of an operation -/
def isLoad : Op → Bool
  | .load .. => true
  | _ => false
def predMask (ops : Array Oper) (j : Nat) : Nat := match ops[j]? with | some o => o.after.toList.foldl (fun m e => bif Region.binds .any e then m ||| 2 ^ e.on else m) 0 | none => 0
def closeM (ops : Array Oper) : Nat → Nat → Nat
  | 0, m => m
  | k + 1, m => closeM ops k (bif m.testBit k then m ||| predMask ops k else m)
def clearB (ops : Array Oper) (n i : Nat) : Bool :=
  (fun m => (List.range n).all fun k => m.testBit k || Nat.beq k i || (match ops[k]? with | some o => !isLoad o.op | none => true)) (closeM ops n (predMask ops i))
def clB (T : Tab) (ops : Array Oper) (n i : Nat) : Bool := (match ops[i]? with | some o => isPure T o.op | none => false) || clearB ops n i
theorem predMask_spec {ops : Array Oper} {n j k : Nat} {listed : Array Bool} (inv : Inv ops n listed) (hj : listed.getD j false = true ∨ j ∈ Region.ready .any ops listed) (h : (predMask ops j).testBit k = true) : listed.getD k false = true := by
  unfold predMask at h
  split at h
  case h_2 => simp at h
  rename_i o ho
  have hall : ∀ e ∈ o.after.toList, Region.binds .any e = true → listed.getD e.on false = true := fun e he hb => by
    rcases hj with hj | hj
    · exact inv.down j o ho hj e (by simpa using he) hb
    · obtain ⟨_, o', ho', ha⟩ := mem_ready.1 hj
      rw [ho] at ho'; cases ho'
      exact ha e (by simpa using he) hb
  have key : ∀ (l : List _) (m : Nat), (∀ e ∈ l, Region.binds .any e = true → listed.getD e.on false = true) → (l.foldl (fun m e => bif Region.binds .any e then m ||| 2 ^ e.on else m) m).testBit k = true → m.testBit k = true ∨ listed.getD k false = true := by
    intro l
    induction l with
    | nil => intro m _ h; exact .inl h
    | cons e l ih =>
      intro m hl h
      rw [List.foldl_cons] at h
      rcases ih _ (fun e' he' => hl e' (List.mem_cons_of_mem _ he')) h with h | h
      · cases hb : Region.binds .any e with
        | false => rw [hb] at h; exact .inl h
        | true =>
          rw [hb] at h
          simp only [cond_true, Nat.testBit_or, Nat.testBit_two_pow, Bool.or_eq_true, decide_eq_true_eq] at h
          rcases h with h | h
          · exact .inl h
          · right; rw [← h]; exact hl e List.mem_cons_self hb
      · exact .inr h
  rcases key _ _ hall h with h | h
  · simp at h
  · exact h
theorem closeM_spec {ops : Array Oper} {n : Nat} {listed : Array Bool} (inv : Inv ops n listed) : ∀ (k m : Nat), (∀ i, m.testBit i = true → listed.getD i false = true) → ∀ i, (closeM ops k m).testBit i = true → listed.getD i false = true
  | 0, m, h, i, hi => h i hi
  | k + 1, m, h, i, hi => by
    unfold closeM at hi
    refine closeM_spec inv k _ (fun j hj => ?_) i hi
    cases hb : m.testBit k with
    | false => rw [hb] at hj; exact h j hj
    | true =>
      rw [hb] at hj
      simp only [cond_true, Nat.testBit_or, Bool.or_eq_true] at hj
      rcases hj with hj | hj
      · exact h j hj
      · exact predMask_spec inv (.inl (h k hb)) hj
theorem clearB_spec {ops : Array Oper} {n i k : Nat} {o : Oper} {listed : Array Bool} (h : clearB ops n i = true) (inv : Inv ops n listed) (hi : i ∈ Region.ready .any ops listed) (hk : k < n) (hki : k ≠ i) (ho : ops[k]? = some o) (hl : isLoad o.op = true) : listed.getD k false = true := by
  unfold clearB at h
  have h1 := List.all_eq_true.1 h k (List.mem_range.2 hk)
  simp only [ho, hl, Bool.not_true, Bool.or_false, Bool.or_eq_true] at h1
  rcases h1 with h1 | h1
  · exact closeM_spec inv n _ (fun j hj => predMask_spec inv (.inr hi) hj) k h1
  · exact absurd (Nat.eq_of_beq_eq_true h1) hki
theorem pureV_const {T : Tab} {op : Op} {e : Env} {w w' : World} {F : Value → Prop} (h : isLoad op = false) (hp : pureV T op e w F) : pureV T op e w' F := by
  cases op with
  | load t x => cases h
  | slice t x lo hi mx => cases mx <;> exact hp
  | call c =>
    obtain ⟨callee, xs, ts⟩ := c
    cases callee with
    | builtin b => cases b <;> exact hp
    | _ => exact hp
  | _ => exact hp
end Go.V

namespace Go.V
open Go.RowKit (Below)
section
variable {P : Program} {T : Tab} (hT : T.Ok P)
theorem Inv.start (ops : Array Oper) (n : Nat) : Inv ops n (Array.replicate ops.size false) := by
  have h : ∀ j, (Array.replicate ops.size false).getD j false = false := fun j => by
    rw [Array.getD_eq_getD_getElem?, Array.getElem?_replicate]; split <;> rfl
  exact ⟨by simp, (fun j o _ hl => by rw [h j] at hl; cases hl), fun t _ => h t⟩
theorem unl_start (ops : Array Oper) (n : Nat) : unl n (Array.replicate ops.size false) = n := by
  unfold unl
  rw [List.filter_eq_self.2, List.length_range]
  intro i _
  rw [Array.getD_eq_getD_getElem?, Array.getElem?_replicate]; split <;> rfl
def pureAt (T : Tab) (ops : Array Oper) (i : Nat) : Bool := match ops[i]? with | some o => isPure T o.op | none => false
def needAt (T : Tab) (ops : Array Oper) (cl : Nat → Bool) (i : Nat) : Bool := match ops[i]? with | some o => isPure T o.op && (!(cl i) || isLoad o.op) | none => false
def SS (T : Tab) (ops : Array Oper) (cl : Nat → Bool) (S : World → Prop) (i : Nat) (w w' : World) : Prop := w' = w ∨ (match cl i with | false => S w' | true => pureAt T ops i = false)
def Pend (T : Tab) (ops : Array Oper) (cl : Nat → Bool) (S : World → Prop) (n : Nat) (listed : Array Bool) (w : World) : Prop := ∀ k, k < n → needAt T ops cl k = true → listed.getD k false = false → S w
def ClOk (T : Tab) (ops : Array Oper) (cl : Nat → Bool) (n : Nat) : Prop :=
  ∀ i, cl i = true → pureAt T ops i = true ∨ ∀ (k : Nat) (listed : Array Bool), Inv ops n listed → i ∈ Region.ready .any ops listed → k < n → k ≠ i → needAt T ops cl k = true → listed.getD k false = true
theorem ClOk.none (T : Tab) (ops : Array Oper) (n : Nat) : ClOk T ops (fun _ => false) n := fun i h => by cases h
theorem ClOk.clB (T : Tab) (ops : Array Oper) (n : Nat) : ClOk T ops (clB T ops n) n := fun i h => by
  unfold V.clB at h
  rw [Bool.or_eq_true] at h
  rcases h with h | h
  · exact .inl h
  · refine .inr fun k listed inv hi hk hki hn => ?_
    unfold needAt at hn
    split at hn
    · rename_i o ho
      refine clearB_spec h inv hi hk hki ho ?_
      simp only [Bool.and_eq_true, Bool.or_eq_true, Bool.not_eq_true'] at hn
      rcases hn.2 with h2 | h2
      · unfold V.clB at h2; rw [ho] at h2; simp only [hn.1, Bool.true_or] at h2; cases h2
      · exact h2
    · cases hn
theorem Pend.set {T : Tab} {ops : Array Oper} {cl : Nat → Bool} {S : World → Prop} {n i : Nat} {listed : Array Bool} {w w' : World} (hcl : ClOk T ops cl n) (inv : Inv ops n listed) (hi : i ∈ Region.ready .any ops listed) (h : Pend T ops cl S n listed w) (hs : SS T ops cl S i w w') :
    Pend T ops cl S n (listed.setIfInBounds i true) w' := fun k hk hn hu => by
  have hki : k ≠ i := fun e => by
    subst e
    rw [Array.getD_eq_getD_getElem?, Array.getElem?_setIfInBounds, if_pos rfl, if_pos (ready_lt hi)] at hu; cases hu
  rw [getD_set_ne false (Ne.symm hki)] at hu
  rcases hs with rfl | hs
  · exact h k hk hn hu
  · split at hs
    · exact hs
    · rename_i hc
      rcases hcl i hc with hp | hp
      · rw [hp] at hs; cases hs
      · rw [hp k listed inv hi hk hki hn] at hu; cases hu
include hT in
theorem anyV_sound {N n : Nat} {D : Nat → Bool} {ops : Array Oper} {w0 : World} {cl : Nat → Bool} {S : World → Prop} {K : Env → World → Prop} {Q : Exit → Act → World → Prop} {a0 : Act} (ht : TailWaits ops n) (hcl : ClOk T ops cl n)
    (hsel : ∀ (j : Nat) (o : Oper) cs b, ops[j]? = some o → o.op ≠ .select cs b) (hW : Within N D ops.toList) (hQ : ∀ c a a' w, Q (.panic c) a w → Q (.panic c) a' w) :
    ∀ (p : Plan) (listed : Array Bool) (rs : Option (List Nat)) (a : Act) (e : Env) (w : World), (noTake p = true ∨ ∀ w, S w → Cel w0 w) → planOk T ops n p listed rs = true → Inv ops n listed → (∀ l, rs = some l → ∀ i ∈ l, i ∈ Region.ready .any ops listed) →
      Ag N a e → Same D a0 a → Pend T ops cl S n listed w → anyV P T ops w0 cl S p e K w →
      match rs with
      | none => unl n listed = p.depth ∧ wpN P ops Q (SS T ops cl S) (fun a w => ∃ e, Ag N a e ∧ Same D a0 a ∧ K e w) p.depth listed a w
      | some l => unl n listed = p.depth ∧ ∃ d, p.depth = d + 1 ∧ ∀ i ∈ l, wpOp P ops Q i (fun a' w' => SS T ops cl S i w w' ∧ wpN P ops Q (SS T ops cl S) (fun a w => ∃ e, Ag N a e ∧ Same D a0 a ∧ K e w) d (listed.setIfInBounds i true) a' w') a w := by
  have hWi : ∀ {i : Nat} {o : Oper}, ops[i]? = some o → ∀ t, o.dst = some t → t < N ∧ D t = true := fun ho => hW _ (by simpa using Array.mem_of_getElem? ho)
  -- one operation, then a plan
  have step : ∀ {i : Nat} {p : Plan} {listed : Array Bool} {a : Act} {e : Env} {w : World}, i ∈ Region.ready .any ops listed → i < n → Inv ops n listed → Ag N a e → Same D a0 a → Pend T ops cl S n listed w →
      (∀ a e w, Ag N a e → Same D a0 a → Pend T ops cl S n (listed.setIfInBounds i true) w → anyV P T ops w0 cl S p e K w → wpN P ops Q (SS T ops cl S) (fun a w => ∃ e, Ag N a e ∧ Same D a0 a ∧ K e w) p.depth (listed.setIfInBounds i true) a w) →
      (match ops[i]? with
        | some o => guardV ops o.guard e (fun e => opV P T o e (fun v w' => cndK (cl i) (S w') (anyV P T ops w0 cl S p (setD e o.dst v) K w')) w) (fun e => anyV P T ops w0 cl S p (setD e o.dst undef) K w)
        | none => False) →
      wpOp P ops Q i (fun a' w' => SS T ops cl S i w w' ∧ wpN P ops Q (SS T ops cl S) (fun a w => ∃ e, Ag N a e ∧ Same D a0 a ∧ K e w) p.depth (listed.setIfInBounds i true) a' w') a w := by
    intro i p listed a e w hr hin inv hA hS hB ih h
    split at h
    case h_2 => exact h.elim
    rename_i o ho
    have hWo := hWi ho
    obtain ⟨e', hA', h⟩ := guardV_sound hA h
    unfold wpOp
    rw [ho]
    have fin : ∀ {v : Value} {w' : World}, SS T ops cl S i w w' → anyV P T ops w0 cl S p (setD e' o.dst v) K w' →
        SS T ops cl S i w w' ∧ wpN P ops Q (SS T ops cl S) (fun a w => ∃ e, Ag N a e ∧ Same D a0 a ∧ K e w) p.depth (listed.setIfInBounds i true) (a.put o.dst v) w' := fun hs hK =>
      ⟨hs, ih _ _ _ (hA'.put _ _ fun t ht => (hWo t ht).1) (hS.put _ _ fun t ht => (hWo t ht).2) (hB.set hcl inv hr hs) hK⟩
    rcases h with ⟨hw, h⟩ | ⟨hw, h⟩
    · simp only [hw, if_true]
      cases hp : isPure T o.op with
      | true =>
        unfold opV at h
        rw [hp] at h
        obtain ⟨v, hF, hl⟩ := pureV_sound hT hA' h
        have hg : Goes P (execOp a.eval o) (fun v' w' => w' = w ∧ v' = v) w := .inl ⟨v, w, hl w (Cel.refl _) |> fun _ => ?_, rfl, rfl⟩
        rotate_left
        · exact hl w (Cel.refl _)
        refine .inl (hg.wp fun v' w' hK => ?_)
        obtain ⟨rfl, rfl⟩ := hK
        refine fin (.inl rfl) ?_
        cases hc : cl i with
        | true => rw [hc] at hF; exact hF
        | false => rw [hc] at hF; exact hF.2
      | false =>
        refine .inl ((opV_sound hT hA' h).wp fun v w' hK => ?_)
        have hpa : pureAt T ops i = false := by unfold pureAt; rw [ho]; exact hp
        cases hc : cl i with
        | true => rw [hc] at hK; exact fin (.inr (by rw [hc]; exact hpa)) hK
        | false => rw [hc] at hK; exact fin (.inr (by rw [hc]; exact hK.1)) hK.2
    · simp only [hw, Bool.false_eq_true, if_false]
      exact fin (.inl rfl) h
  intro p
  induction p with
  | done =>
    intro listed rs a e w _ hok inv _ hA hS hB h
    cases rs with
    | some l => simp [planOk] at hok
    | none =>
      simp only [planOk] at hok
      refine ⟨?_, ⟨e, hA, hS, h⟩⟩
      show unl n listed = 0
      unfold unl
      rw [List.length_eq_zero_iff, List.filter_eq_nil_iff]
      intro i hi
      have := List.all_eq_true.1 hok i hi
      rw [this]; simp
  | take i p ih =>
    intro listed rs a e w hnt hok inv _ hA hS hB h
    have hC : ∀ w, S w → Cel w0 w := by rcases hnt with h | h; (· cases h); exact h
    cases rs with
    | some l => simp [planOk] at hok
    | none =>
      simp only [planOk, Bool.and_eq_true] at hok
      obtain ⟨⟨⟨⟨h1, h2⟩, h3⟩, h4⟩, h5⟩ := hok
      have hin : i < n := by simpa [Nat.blt_eq] using h1
      have hr := memB_mem h2
      simp only [anyV] at h
      split at h
      case h_2 => exact h.elim
      rename_i o ho
      rw [ho] at h4
      have hWo := hWi ho
      have inv' := inv.set hr hin
      have hui := unB (mem_ready.1 hr).1
      have hu := unl_set hin (ready_lt hr) hui
      obtain ⟨e', hA', h⟩ := guardV_sound hA h
      -- what the operation asks of the world as long as it has not come up
      have go : ∀ v, (∃ R : World → Prop, YieldsIf P ops R o v a ∧ R w ∧ (∀ w', S w' → R w') ∧ ((∀ w', R w') ∨ needAt T ops cl i = true)) → anyV P T ops w0 cl S p (setD e' o.dst v) K w →
          unl n listed = p.depth + 1 ∧ wpN P ops Q (SS T ops cl S) (fun a w => ∃ e, Ag N a e ∧ Same D a0 a ∧ K e w) (p.depth + 1) listed a w := by
        rintro v ⟨R, hy, hRw, hSR, hR⟩ hv
        obtain ⟨g1, g2⟩ := ih (listed.setIfInBounds i true) none _ _ w (.inr hC) h5 inv' (fun l hl => by cases hl) (hA'.put o.dst v fun t ht => (hWo t ht).1) (hS.put o.dst v fun t ht => (hWo t ht).2) (hB.set hcl inv hr (.inl rfl)) hv
        refine ⟨by omega, wpN_first ht ho hsel (fun c a' w' hq => hQ c _ _ w' hq) (fun w _ => .inl rfl) (fun j listed2 inv2 hj hjn hji hu2 w1 w2 hR1 hs => ?_) _ _ _ _ inv (by omega) hin (Region.free_spec ho h3) hr hy hRw g2⟩
        rcases hs with rfl | hs
        · exact hR1
        · split at hs
          · exact hSR _ hs
          · rename_i hc
            rcases hR with hR | hR
            · exact hR _
            · rcases hcl j hc with hp | hp
              · rw [hp] at hs; cases hs
              · rw [hp i listed2 inv2 hj hin (Ne.symm hji) hR] at hu2; cases hu2
      rcases h with ⟨hw, h⟩ | ⟨hw, h⟩
      · cases hne : needAt T ops cl i with
        | true =>
          obtain ⟨v, hF, hl⟩ := pureV_sound hT hA' h
          exact go v ⟨S, .inl ⟨hw, fun w' hw' => hl w' (hC w' hw')⟩, hB i hin hne hui, fun _ h => h, .inr hne⟩ hF
        | false =>
          have hnl : isLoad o.op = false := by
            unfold needAt at hne; rw [ho] at hne
            simp only [h4, Bool.true_and, Bool.or_eq_false_iff] at hne
            exact hne.2
          obtain ⟨v, hF, hl⟩ := pureV_sound hT hA' (pureV_const (w' := { w with heap := #[] }) hnl h)
          exact go v ⟨fun _ => True, .inl ⟨hw, fun w' _ => hl w' fun p u hp => by simp [World.cell?] at hp⟩, trivial, fun _ _ => trivial, .inl fun _ => trivial⟩ hF
      · exact go undef ⟨fun _ => True, .inr ⟨hw, rfl⟩, trivial, fun _ _ => trivial, .inl fun _ => trivial⟩ h
  | one i p ih =>
    intro listed rs a e w hnt hok inv hrs hA hS hB h
    have hnt : noTake p = true ∨ ∀ w, S w → Cel w0 w := hnt
    simp only [planOk, Bool.and_eq_true] at hok
    obtain ⟨⟨h1, h2⟩, h5⟩ := hok
    have hin : i < n := by simpa [Nat.blt_eq] using h1
    have heq := listEq_eq h2
    have hr : i ∈ Region.ready .any ops listed := by
      cases rs with
      | none => simp only [Option.getD_none] at heq; rw [heq]; simp
      | some l => simp only [Option.getD_some] at heq; exact hrs l rfl i (by rw [heq]; simp)
    have inv' := inv.set hr hin
    have hu := unl_set hin (ready_lt hr) (unB (mem_ready.1 hr).1)
    have g := step hr hin inv hA hS hB (fun a e w hA hS hB hv => (ih (listed.setIfInBounds i true) none a e w hnt h5 inv' (fun l hl => by cases hl) hA hS hB hv).2) h
    have hdep : unl n (listed.setIfInBounds i true) = p.depth := by
      -- the count is the plan's own
      have key : ∀ (p : Plan) (listed : Array Bool) (rs : Option (List Nat)), planOk T ops n p listed rs = true → (∀ i, i < n → i < listed.size) → (∀ l, rs = some l → ∀ i ∈ l, i ∈ Region.ready .any ops listed) → unl n listed = p.depth := by
        intro p
        induction p with
        | done =>
          intro listed rs hok _ _
          cases rs with
          | some l => simp [planOk] at hok
          | none =>
            simp only [planOk] at hok
            show unl n listed = 0
            unfold unl
            rw [List.length_eq_zero_iff, List.filter_eq_nil_iff]
            intro i hi
            have := List.all_eq_true.1 hok i hi
            rw [this]; simp
        | take i p ih =>
          intro listed rs hok hsz _
          cases rs with
          | some l => simp [planOk] at hok
          | none =>
            simp only [planOk, Bool.and_eq_true] at hok
            obtain ⟨⟨⟨⟨h1, h2⟩, h3⟩, h4⟩, h5⟩ := hok
            have hin : i < n := by simpa [Nat.blt_eq] using h1
            have := unl_set hin (hsz i hin) (unB (mem_ready.1 (memB_mem h2)).1)
            have := ih _ none h5 (fun i hi => by simpa using hsz i hi) (fun l hl => by cases hl)
            simp only [Plan.depth]; omega
        | one i p ih =>
          intro listed rs hok hsz hrs
          simp only [planOk, Bool.and_eq_true] at hok
          obtain ⟨⟨h1, h2⟩, h5⟩ := hok
          have hin : i < n := by simpa [Nat.blt_eq] using h1
          have heq := listEq_eq h2
          have hr : i ∈ Region.ready .any ops listed := by
            cases rs with
            | none => simp only [Option.getD_none] at heq; rw [heq]; simp
            | some l => simp only [Option.getD_some] at heq; exact hrs l rfl i (by rw [heq]; simp)
          have := unl_set hin (hsz i hin) (unB (mem_ready.1 hr).1)
          have := ih _ none h5 (fun i hi => by simpa using hsz i hi) (fun l hl => by cases hl)
          simp only [Plan.depth]; omega
        | both i p q ihp ihq =>
          intro listed rs hok hsz hrs
          simp only [planOk, Bool.and_eq_true] at hok
          obtain ⟨⟨⟨h1, h2⟩, h3⟩, h5⟩ := hok
          have hin : i < n := by simpa [Nat.blt_eq] using h1
          split at h2
          · rename_i j r hjr
            simp only [Bool.and_eq_true] at h2
            have hj := Nat.eq_of_beq_eq_true h2.1
            subst hj
            have hr : j ∈ Region.ready .any ops listed := by
              cases rs with
              | none => simp only [Option.getD_none] at hjr; rw [hjr]; simp
              | some l => simp only [Option.getD_some] at hjr; exact hrs l rfl j (by rw [hjr]; simp)
            have := unl_set hin (hsz j hin) (unB (mem_ready.1 hr).1)
            have := ihp _ none h5 (fun i hi => by simpa using hsz i hi) (fun l hl => by cases hl)
            simp only [Plan.depth]; omega
          · cases h2
      refine key p _ none h5 (fun i hi => ?_) (fun l hl => by cases hl)
      rw [inv'.size]; rcases ht with rfl | ⟨h, _⟩ <;> omega
    cases rs with
    | none =>
      simp only [Option.getD_none] at heq
      exact ⟨by simp only [Plan.depth]; omega, by rw [heq]; simp, fun j hj => by rw [heq] at hj; simp at hj; subst hj; exact g⟩
    | some l =>
      simp only [Option.getD_some] at heq
      exact ⟨by simp only [Plan.depth]; omega, p.depth, rfl, fun j hj => by rw [heq] at hj; simp at hj; subst hj; exact g⟩
  | both i p q ihp ihq =>
    intro listed rs a e w hnt hok inv hrs hA hS hB h
    have hntp : noTake p = true ∨ ∀ w, S w → Cel w0 w := hnt.imp (fun h => by simp only [noTake, Bool.and_eq_true] at h; exact h.1) id
    have hntq : noTake q = true ∨ ∀ w, S w → Cel w0 w := hnt.imp (fun h => by simp only [noTake, Bool.and_eq_true] at h; exact h.2) id
    simp only [planOk, Bool.and_eq_true] at hok
    obtain ⟨⟨⟨h1, h2⟩, h3⟩, h5⟩ := hok
    have hin : i < n := by simpa [Nat.blt_eq] using h1
    split at h2
    case h_2 => cases h2
    rename_i j r hjr
    simp only [Bool.and_eq_true] at h2
    have hj := Nat.eq_of_beq_eq_true h2.1
    subst hj
    have hall : ∀ k ∈ (j :: r), k ∈ Region.ready .any ops listed := by
      cases rs with
      | none => simp only [Option.getD_none] at hjr; rw [hjr]; exact fun k hk => hk
      | some l => simp only [Option.getD_some] at hjr; rw [← hjr]; exact hrs l rfl
    have hr := hall j List.mem_cons_self
    have inv' := inv.set hr hin
    have hu := unl_set hin (ready_lt hr) (unB (mem_ready.1 hr).1)
    have hdq := Nat.eq_of_beq_eq_true h3
    have g := step hr hin inv hA hS hB (fun a e w hA hS hB hv => (ihp (listed.setIfInBounds j true) none a e w hntp h5 inv' (fun l hl => by cases hl) hA hS hB hv).2) h.1
    obtain ⟨gq, d, hd, g'⟩ := ihq listed (some r) a e w hntq h2.2 inv (fun l hl k hk => by cases hl; exact hall k (List.mem_cons_of_mem _ hk)) hA hS hB h.2
    have hdd : d = p.depth := by omega
    subst hdd
    have both : ∀ k ∈ (j :: r), wpOp P ops Q k (fun a' w' => SS T ops cl S k w w' ∧ wpN P ops Q (SS T ops cl S) (fun a w => ∃ e, Ag N a e ∧ Same D a0 a ∧ K e w) p.depth (listed.setIfInBounds k true) a' w') a w := by
      intro k hk
      rcases List.mem_cons.1 hk with rfl | hk
      · exact g
      · exact g' k hk
    cases rs with
    | none =>
      simp only [Option.getD_none] at hjr
      exact ⟨by simp only [Plan.depth]; omega, by rw [hjr]; simp, fun k hk => by rw [hjr] at hk; exact both k hk⟩
    | some l =>
      simp only [Option.getD_some] at hjr
      exact ⟨by simp only [Plan.depth]; omega, p.depth, rfl, fun k hk => by rw [hjr] at hk; exact both k hk⟩
def seqOk (ops : Array Oper) : Nat → Nat → Array Bool → Bool
  | 0, _, listed => listEq (Region.ready .any ops listed) []
  | g + 1, k, listed => listEq (Region.ready .any ops listed) [k] && seqOk ops g (k + 1) (listed.setIfInBounds k true)
theorem tail_sound {ops : Array Oper} {Q : Exit → Act → World → Prop} : ∀ (l : List Oper) (k : Nat) (listed : Array Bool) (a : Act) (w : World), (∀ j, l[j]? = ops[k + j]?) →
    seqOk ops l.length k listed = true → wpList P ops Q l a w → wpAny P .any ops Q l.length listed a w
  | [], _, _, _, _, _, hB, h => ⟨listEq_eq hB, h⟩
  | o :: l, k, listed, a, w, hl, hB, h => by
    have h0 : ops[k]? = some o := by simpa using (hl 0).symm
    simp only [List.length_cons, seqOk, Bool.and_eq_true] at hB
    have hr := listEq_eq hB.1
    refine ⟨(fun h1 => by rw [hr] at h1; cases h1), fun i hi => ?_⟩
    rw [hr] at hi
    simp only [List.mem_singleton] at hi
    subst hi
    have hw : wpOp P ops Q i (wpList P ops Q l) a w := by
      unfold wpOp
      rw [h0]
      exact h
    exact wpOp_mono (fun a' w' h' => tail_sound l (i + 1) _ a' w' (fun j => by have := hl (j + 1); simpa [Nat.add_assoc, Nat.add_comm 1 j] using this) hB.2 h') hw
def headArr (ops : Array Oper) (n : Nat) : Array Bool := ((List.range ops.size).map fun i => Nat.blt i n).toArray
theorem headArr_eq {ops : Array Oper} {n : Nat} {listed : Array Bool} (inv : Inv ops n listed) (hu : unl n listed = 0) : listed = headArr ops n := by
  have h := unl_zero hu
  apply Array.ext
  · simp [headArr, inv.size]
  · intro i h1 h2
    have hg : ∀ b, listed.getD i false = b → listed[i] = b := fun b hb => by
      rw [Array.getD_eq_getD_getElem?, Array.getElem?_eq_getElem h1] at hb; exact hb
    simp only [headArr, List.getElem_toArray, List.getElem_map, List.getElem_range]
    rcases Nat.lt_or_ge i n with hin | hin
    · rw [hg _ (h i hin)]; exact (by rw [Nat.blt_eq]; exact hin : Nat.blt i n = true).symm
    · rw [hg _ (inv.tail i hin)]
      cases hq : Nat.blt i n with
      | false => rfl
      | true => rw [Nat.blt_eq] at hq; omega
def regOk (T : Tab) (ops : Array Oper) (n : Nat) (p : Plan) : Bool :=
  Region.noSelect ops && Nat.ble n ops.size && (Nat.beq n ops.size || tailB ops n) && seqOk ops (ops.size - n) n (headArr ops n) && planOk T ops n p (Array.replicate ops.size false) none
/-! ### The same check over a number whose bits tell what has come up -/
def readyM (ops : Array Oper) (m : Nat) : List Nat := (List.range ops.size).filter fun i => !m.testBit i && Nat.beq (predMask ops i &&& m) (predMask ops i)
def freeM (ops : Array Oper) (m i : Nat) : Bool :=
  match ops[i]? with
  | none => false
  | some oi => (List.range ops.size).all fun j => j == i || m.testBit j || match ops[j]? with
      | some oj => oj.after.any (fun e => Region.binds .any e && e.on == i) || oi.apart ops oj
      | none => true
def planM (T : Tab) (ops : Array Oper) (n : Nat) : Plan → Nat → Option (List Nat) → Bool
  | .done, m, none => (List.range n).all fun i => m.testBit i
  | .done, _, some _ => false
  | .take i p, m, none => Nat.blt i n && memB i (readyM ops m) && freeM ops m i && (match ops[i]? with | some o => isPure T o.op | none => false) && planM T ops n p (m ||| 2 ^ i) none
  | .take _ _, _, some _ => false
  | .one i p, m, rs => Nat.blt i n && listEq (rs.getD (readyM ops m)) [i] && planM T ops n p (m ||| 2 ^ i) none
  | .both i p q, m, rs => Nat.blt i n && (match rs.getD (readyM ops m) with | j :: r => Nat.beq j i && planM T ops n q m (some r) | [] => false) && Nat.beq (p.depth + 1) q.depth && planM T ops n p (m ||| 2 ^ i) none
structure MOk (ops : Array Oper) (m : Nat) (listed : Array Bool) : Prop where
  size : listed.size = ops.size
  bit : ∀ i, listed.getD i false = m.testBit i
theorem MOk.bitT {ops : Array Oper} {m : Nat} {listed : Array Bool} (h : MOk ops m listed) {i : Nat} (hi : i < ops.size) : listed.getD i true = m.testBit i := by
  have hi' : i < listed.size := by rw [h.size]; exact hi
  rw [← h.bit i, Array.getD_eq_getD_getElem?, Array.getD_eq_getD_getElem?, Array.getElem?_eq_getElem hi']; rfl
theorem MOk.set {ops : Array Oper} {m i : Nat} {listed : Array Bool} (h : MOk ops m listed) (hi : i < ops.size) : MOk ops (m ||| 2 ^ i) (listed.setIfInBounds i true) := by
  refine ⟨by simp [h.size], fun j => ?_⟩
  rw [Nat.testBit_or, Nat.testBit_two_pow, ← h.bit j, Array.getD_eq_getD_getElem?, Array.getD_eq_getD_getElem?, Array.getElem?_setIfInBounds]
  by_cases e : i = j
  · subst e
    have hi' : i < listed.size := by rw [h.size]; exact hi
    simp [hi']
  · simp [e]
theorem foldMask {l : List Edge} : ∀ {m k : Nat}, (l.foldl (fun m e => bif Region.binds .any e then m ||| 2 ^ e.on else m) m).testBit k = (m.testBit k || l.any fun e => Region.binds .any e && Nat.beq e.on k) := by
  induction l with
  | nil => intro m k; simp
  | cons e l ih =>
    intro m k
    rw [List.foldl_cons, ih, List.any_cons]
    cases hb : Region.binds .any e with
    | false => simp
    | true =>
      simp only [cond_true, Nat.testBit_or, Nat.testBit_two_pow, Bool.true_and]
      have : decide (e.on = k) = Nat.beq e.on k := by
        by_cases h : e.on = k
        · subst h; simp
        · rw [decide_eq_false h]; symm; rw [Bool.eq_false_iff]; exact fun h2 => h (Nat.eq_of_beq_eq_true h2)
      rw [this, Bool.or_assoc]
theorem subMask {a b : Nat} : Nat.beq (a &&& b) a = true ↔ ∀ k, a.testBit k = true → b.testBit k = true := by
  constructor
  · intro h k hk
    have h := Nat.eq_of_beq_eq_true h
    have : (a &&& b).testBit k = a.testBit k := by rw [h]
    rw [Nat.testBit_and, hk, Bool.true_and] at this; exact this
  · intro h
    have : a &&& b = a := Nat.eq_of_testBit_eq fun k => by
      rw [Nat.testBit_and]
      cases hk : a.testBit k
      · rfl
      · rw [h k hk]; rfl
    rw [this]; exact Nat.beq_refl a
theorem readyM_eq {ops : Array Oper} {m : Nat} {listed : Array Bool} (h : MOk ops m listed) : readyM ops m = Region.ready .any ops listed := by
  unfold readyM Region.ready
  refine List.filter_congr fun i hi => ?_
  have hi := List.mem_range.1 hi
  rw [h.bitT hi, Array.getElem?_eq_getElem hi]
  congr 1
  rw [Bool.eq_iff_iff, subMask]
  simp only [predMask, Array.getElem?_eq_getElem hi, foldMask, Nat.zero_testBit, Bool.false_or, Option.map_some, Option.getD_some, Array.all_eq_true_iff_forall_mem, List.any_eq_true, Bool.and_eq_true, Bool.or_eq_true, Bool.not_eq_true']
  constructor
  · intro hk e he
    cases hb : Region.binds .any e with
    | false => exact .inl rfl
    | true => exact .inr (by rw [h.bit]; exact hk e.on ⟨e, by simpa using he, hb, Nat.beq_refl _⟩)
  · rintro hk k ⟨e, he, hb, ho⟩
    have ho := Nat.eq_of_beq_eq_true ho
    subst ho
    rcases hk e (by simpa using he) with h1 | h1
    · rw [hb] at h1; cases h1
    · rw [← h.bit]; exact h1
theorem freeM_eq {ops : Array Oper} {m i : Nat} {listed : Array Bool} (h : MOk ops m listed) : freeM ops m i = true → Region.free .any ops listed i = true := by
  unfold freeM Region.free
  cases ops[i]? with
  | none => exact id
  | some oi =>
    simp only [List.all_eq_true]
    intro hf j hj
    have := hf j hj
    rw [h.bitT (List.mem_range.1 hj)]; exact this
theorem planM_ok {T : Tab} {ops : Array Oper} {n : Nat} (hn : n ≤ ops.size) : ∀ (p : Plan) {m : Nat} {listed : Array Bool} {rs : Option (List Nat)}, MOk ops m listed → planM T ops n p m rs = true → planOk T ops n p listed rs = true := by
  intro p
  induction p with
  | done =>
    intro m listed rs h hp
    cases rs with
    | none =>
      simp only [planM, planOk, List.all_eq_true] at hp ⊢
      intro i hi; rw [h.bit]; exact hp i hi
    | some r => exact hp
  | take i p ih =>
    intro m listed rs h hp
    cases rs with
    | none =>
      simp only [planM, planOk, Bool.and_eq_true] at hp ⊢
      obtain ⟨⟨⟨⟨h1, h2⟩, h3⟩, h4⟩, h5⟩ := hp
      have hi := Nat.le_of_ble_eq_true h1
      exact ⟨⟨⟨⟨h1, by rw [← readyM_eq h]; exact h2⟩, freeM_eq h h3⟩, h4⟩, ih (h.set (by omega)) h5⟩
    | some r => exact hp
  | one i p ih =>
    intro m listed rs h hp
    simp only [planM, planOk, Bool.and_eq_true] at hp ⊢
    obtain ⟨⟨h1, h2⟩, h3⟩ := hp
    have hi := Nat.le_of_ble_eq_true h1
    exact ⟨⟨h1, by rw [← readyM_eq h]; exact h2⟩, ih (h.set (by omega)) h3⟩
  | both i p q ihp ihq =>
    intro m listed rs h hp
    simp only [planM, planOk, Bool.and_eq_true] at hp ⊢
    obtain ⟨⟨⟨h1, h2⟩, h3⟩, h4⟩ := hp
    have hi := Nat.le_of_ble_eq_true h1
    refine ⟨⟨⟨h1, ?_⟩, h3⟩, ihp (h.set (by omega)) h4⟩
    rw [← readyM_eq h]
    cases hr : rs.getD (readyM ops m) with
    | nil => rw [hr] at h2; cases h2
    | cons j r =>
      rw [hr] at h2
      simp only [Bool.and_eq_true] at h2 ⊢
      exact ⟨h2.1, ihq h h2.2⟩
def regOkM (T : Tab) (ops : Array Oper) (n : Nat) (p : Plan) : Bool :=
  Region.noSelect ops && Nat.ble n ops.size && (Nat.beq n ops.size || tailB ops n) && seqOk ops (ops.size - n) n (headArr ops n) && planM T ops n p 0 none
theorem regOkM_ok {T : Tab} {ops : Array Oper} {n : Nat} {p : Plan} (h : regOkM T ops n p = true) : regOk T ops n p = true := by
  simp only [regOkM, regOk, Bool.and_eq_true] at h ⊢
  obtain ⟨⟨⟨⟨h1, h2⟩, h3⟩, h4⟩, h5⟩ := h
  refine ⟨⟨⟨⟨h1, h2⟩, h3⟩, h4⟩, planM_ok (Nat.le_of_ble_eq_true h2) p ⟨by simp, fun i => ?_⟩ h5⟩
  rw [Array.getD_eq_getD_getElem?, Array.getElem?_replicate, Nat.zero_testBit]
  split <;> rfl
include hT in
theorem region_any {N n : Nat} {D : Nat → Bool} {id : Nat} {ops : Array Oper} {p : Plan} {cl : Nat → Bool} (hcl : ClOk T ops cl n) {e : Env} {K : Env → World → Prop} {Q : Exit → Act → World → Prop} {a : Act} {w v0 : World} (hv : Cel v0 w.drew) (hm : P.follows .mixedOrders = true)
    (hok : regOk T ops n p = true) (hW : Within N D ops.toList) (hQ : ∀ c a a' w, Q (.panic c) a w → Q (.panic c) a' w) (hA : Ag N a e)
    (h : anyV P T ops v0 cl (fun w' => Cel v0 w') p e (fun e' w' => opsV P T ops (ops.toList.drop n) e' K w') w.drew) (hK : ∀ a' e' w', Ag N a' e' → Same D a a' → K e' w' → Q .normal a' w') :
    (Code.region id ops true).wp P Q a w := by
  simp only [regOk, Bool.and_eq_true] at hok
  obtain ⟨⟨⟨⟨h1, h2⟩, h3⟩, h4⟩, h5⟩ := hok
  have hn := Nat.le_of_ble_eq_true h2
  have ht : TailWaits ops n := by
    simp only [Bool.or_eq_true] at h3
    rcases h3 with h3 | h3
    · exact .inl (Nat.eq_of_beq_eq_true h3)
    · rcases Nat.lt_or_ge n ops.size with hlt | hge
      · exact .inr ⟨hlt, h3⟩
      · exact .inl (by omega)
  refine wp_region_any hm ?_
  rw [World.drew_eq]
  obtain ⟨hu, hN⟩ := anyV_sound hT ht hcl (Region.noSelect_spec h1) hW hQ p _ none a e w.drew (.inr fun _ h => h) h5 (Inv.start ops n) (fun l hl => by cases hl) hA (Same.refl D a) (fun _ _ _ _ => hv) h
  rw [unl_start] at hu
  rw [← hu] at hN
  have := wpAny_of_N ht (g := ops.size - n) (L := fun a' w' => ∃ e', Ag N a' e' ∧ Same D a a' ∧ opsV P T ops (ops.toList.drop n) e' K w') (Q := Q) ?_ n _ a w.drew (Inv.start ops n) (unl_start ops n) hN
  · rw [show n + (ops.size - n) = ops.size by omega] at this
    exact this
  · rintro listed a' w' inv hu' ⟨e', hA', hS', h'⟩
    rw [headArr_eq inv hu']
    have hl : (ops.toList.drop n).length = ops.size - n := by simp
    rw [← hl] at h4 ⊢
    refine tail_sound _ n _ a' w' (fun j => by simp) h4 ?_
    exact opsV_sound hT _ _ _ _ (fun o ho => hW o (List.mem_of_mem_drop ho)) hA' hS' h' hK
def regOk2 (T : Tab) (ops : Array Oper) (n : Nat) (p q : Plan) : Bool :=
  Region.noSelect ops && Nat.ble n ops.size && (Nat.beq n ops.size || tailB ops n) && listEq (Region.ready .any ops (headArr ops ops.size)) [] && planOk T ops n p (Array.replicate ops.size false) none &&
    (planOk T ops ops.size q (headArr ops n) none && noTake q && Nat.beq q.depth (ops.size - n))
include hT in
theorem region_any2 {N n : Nat} {D : Nat → Bool} {id : Nat} {ops : Array Oper} {p q : Plan} {e : Env} {K : Env → World → Prop} {Q : Exit → Act → World → Prop} {a : Act} {w : World} (hm : P.follows .mixedOrders = true)
    (hok : regOk2 T ops n p q = true) (hW : Within N D ops.toList) (hQ : ∀ c a a' w, Q (.panic c) a w → Q (.panic c) a' w) (hA : Ag N a e)
    (h : anyV P T ops w.drew (fun _ => false) (fun w' => Cel w.drew w') p e (fun e' w' => anyV P T ops w' (fun _ => false) (fun _ => True) q e' K w') w.drew) (hK : ∀ a' e' w', Ag N a' e' → Same D a a' → K e' w' → Q .normal a' w') :
    (Code.region id ops true).wp P Q a w := by
  simp only [regOk2, Bool.and_eq_true] at hok
  obtain ⟨⟨⟨⟨⟨h1, h2⟩, h3⟩, h4⟩, h5⟩, ⟨h6, h7⟩, h8⟩ := hok
  have hn := Nat.le_of_ble_eq_true h2
  have hd := Nat.eq_of_beq_eq_true h8
  have ht : TailWaits ops n := by
    simp only [Bool.or_eq_true] at h3
    rcases h3 with h3 | h3
    · exact .inl (Nat.eq_of_beq_eq_true h3)
    · rcases Nat.lt_or_ge n ops.size with hlt | hge
      · exact .inr ⟨hlt, h3⟩
      · exact .inl (by omega)
  refine wp_region_any hm ?_
  rw [World.drew_eq]
  obtain ⟨hu, hN⟩ := anyV_sound hT ht (ClOk.none T ops n) (Region.noSelect_spec h1) hW hQ p _ none a e w.drew (.inr fun _ h => h) h5 (Inv.start ops n) (fun l hl => by cases hl) hA (Same.refl D a) (fun _ _ _ _ => Cel.refl _) h
  rw [unl_start] at hu
  rw [← hu] at hN
  have := wpAny_of_N ht (g := ops.size - n) (L := fun a' w' => ∃ e', Ag N a' e' ∧ Same D a a' ∧ anyV P T ops w' (fun _ => false) (fun _ => True) q e' K w') (Q := Q) ?_ n _ a w.drew (Inv.start ops n) (unl_start ops n) hN
  · rw [show n + (ops.size - n) = ops.size by omega] at this
    exact this
  · rintro listed a' w' inv hu' ⟨e', hA', hS', h'⟩
    have hl := headArr_eq inv hu'
    have inv2 : Inv ops ops.size listed := ⟨inv.size, inv.down, fun t htt => inv.tail t (by omega)⟩
    obtain ⟨hu2, hN2⟩ := anyV_sound hT (.inl rfl) (ClOk.none T ops ops.size) (Region.noSelect_spec h1) hW hQ q listed none a' e' w' (.inl h7) (by rw [hl]; exact h6) inv2 (fun l hl => by cases hl) hA' (Same.refl D a') (fun _ _ _ _ => trivial) h'
    rw [hd] at hu2 hN2
    refine wpAny_of_N (n := ops.size) (.inl rfl) (g := 0) (L := fun a'' w'' => ∃ e'', Ag N a'' e'' ∧ Same D a' a'' ∧ K e'' w'') (Q := Q) ?_ (ops.size - n) listed a' w' inv2 hu2 hN2
    rintro listed2 a2 w2 inv3 hu3 ⟨e2, hA2, hS2, h2⟩
    rw [headArr_eq inv3 hu3]
    exact ⟨listEq_eq h4, hK a2 e2 w2 hA2 (hS'.trans hS2) h2⟩
end
/-! ### Code -/
inductive Ann where
  | nil
  | two (x y : Ann)
  | cut (ms : List (Nat × Sh)) (keep : List Nat) (x y : Ann)
  | one (x : Ann)
  | loop (ms : List (Nat × Sh)) (keep : List Nat) (x : Ann)
  | any (n : Nat) (p : Plan)
  | any2 (n : Nat) (p q : Plan)
  | anyS (n : Nat) (p : Plan)
  | anyC (n : Nat) (p : Plan)
  | anyD (n : Nat) (p : Plan)
def CurC (X : Type) : Cell → Type
  | .int _ => Int → X
  | .bool => Bool → X
  | .str => ByteArray → X
  | .slice => Option Addr → Nat → Nat → X
  | .ptr => Option Addr → X
  | .map => Option Nat → X
  | .fn => FuncId → X
  | .clo => FuncId → Array Value → X
  | .any => Value → X
def CurCs (X : Type) : List Cell → Type
  | [] => X
  | c :: cs => CurC (CurCs X cs) c
def CurS (X : Type) : Sh → Type
  | .one c => CurC X c
  | .agg cs => CurCs X cs
  | .row _ => Array Value → X
def Cur (X : Type) : List Sh → Type
  | [] => X
  | s :: ss => CurS (Cur X ss) s
def ofX {X : Type} : Option X → (X → Prop) → Prop
  | some x, F => F x
  | none, _ => False
def apC {X : Type} : (c : Cell) → CurC X c → Value → Option X
  | .int k, f, .int j n => match decide (k = j) with | true => some (f n) | false => none
  | .bool, f, .bool b => some (f b)
  | .str, f, .string s => some (f s)
  | .slice, f, .slice a l c => some (f a l c)
  | .ptr, f, .pointer a => some (f a)
  | .map, f, .map r => some (f r)
  | .fn, f, .func (.func g) x y => match x.toList, y.toList with | [], [] => some (f g) | _, _ => none
  | .clo, f, .func (.func g) x y => match x.toList with | [] => some (f g y) | _ => none
  | .any, f, v => some (f v)
  | _, _, _ => none
def apCs {X : Type} : (cs : List Cell) → CurCs X cs → List Value → Option X
  | [], f, [] => some f
  | c :: cs, f, v :: vs => match apC c f v with | some g => apCs cs g vs | none => none
  | _, _, _ => none
def apS {X : Type} : (s : Sh) → CurS X s → Value → Option X
  | .one c, f, v => apC c f v
  | .agg cs, f, .agg vs => apCs cs f vs.toList
  | .row _, f, .agg vs => some (f vs)
  | _, _, _ => none
def apF {X : Type} : (ss : List Sh) → Cur X ss → List Value → Option X
  | [], f, [] => some f
  | s :: ss, f, v :: vs => match apS s f v with | some g => apF ss g vs | none => none
  | _, _, _ => none
def ap {X : Type} (ss : List Sh) (f : Cur X ss) (vs : List Value) (F : X → Prop) : Prop := ofX (apF ss f vs) F
def AllC : Cell → (Value → Prop) → Prop
  | .int k, F => ∀ n : Int, F (.int k n)
  | .bool, F => ∀ b : Bool, F (.bool b)
  | .str, F => ∀ s : ByteArray, F (.string s)
  | .slice, F => ∀ (a : Option Addr) (l c : Nat), F (.slice a l c)
  | .ptr, F => ∀ a : Option Addr, F (.pointer a)
  | .map, F => ∀ r : Option Nat, F (.map r)
  | .fn, F => ∀ f : FuncId, F (.func (.func f) #[] #[])
  | .clo, F => ∀ (f : FuncId) (cs : Array Value), F (.func (.func f) #[] cs)
  | .any, F => ∀ v : Value, F v
def AllCs : List Cell → (List Value → Prop) → Prop
  | [], F => F []
  | c :: cs, F => AllC c fun v => AllCs cs fun vs => F (v :: vs)
def AllS : Sh → (Value → Prop) → Prop
  | .one c, F => AllC c F
  | .agg cs, F => AllCs cs fun vs => F (.agg vs.toArray)
  | .row _, F => ∀ vs : Array Value, F (.agg vs)
def All : List Sh → (List Value → Prop) → Prop
  | [], F => F []
  | s :: ss, F => AllS s fun v => All ss fun vs => F (v :: vs)
theorem apC_all {X : Type} {c : Cell} {f : CurC X c} {v : Value} {x : X} (h : apC c f v = some x) {G : Value → Prop} (hG : AllC c G) : G v := by
  cases c <;> cases v <;> first | (cases h; done) | exact hG _ | exact hG _ _ _ | skip
  · rename_i k j n
    simp only [apC] at h
    split at h
    · rename_i hk; have := of_decide_eq_true hk; subst this; exact hG _
    · cases h
  · rename_i fn x y
    cases fn <;> first | (cases h; done) | skip
    simp only [apC] at h
    split at h
    · rename_i h1 h2
      have e1 : x = #[] := by apply Array.ext'; simpa using h1
      have e2 : y = #[] := by apply Array.ext'; simpa using h2
      subst e1; subst e2
      exact hG _
    · cases h
  · rename_i fn x y
    cases fn <;> first | (cases h; done) | skip
    simp only [apC] at h
    split at h
    · rename_i h1
      have e1 : x = #[] := by apply Array.ext'; simpa using h1
      subst e1
      exact hG _ _
    · cases h
theorem apCs_all {X : Type} {cs : List Cell} : ∀ {f : CurCs X cs} {vs : List Value} {x : X}, apCs cs f vs = some x → ∀ {G : List Value → Prop}, AllCs cs G → G vs := by
  induction cs with
  | nil => intro f vs x h G hG; cases vs <;> first | (cases h; done) | exact hG
  | cons c cs ih =>
    intro f vs x h G hG
    cases vs with
    | nil => cases h
    | cons v vs =>
      simp only [apCs] at h
      split at h
      · rename_i g hg; exact ih h (apC_all hg hG)
      · cases h
theorem apS_all {X : Type} {s : Sh} {f : CurS X s} {v : Value} {x : X} (h : apS s f v = some x) {G : Value → Prop} (hG : AllS s G) : G v := by
  cases s with
  | one c => exact apC_all h hG
  | agg cs => cases v <;> first | (cases h; done) | exact apCs_all (cs := cs) (G := fun vs => G (.agg vs.toArray)) h hG
  | row n => cases v <;> first | (cases h; done) | exact hG _
theorem apF_all {X : Type} {ss : List Sh} : ∀ {f : Cur X ss} {vs : List Value} {x : X}, apF ss f vs = some x → ∀ {G : List Value → Prop}, All ss G → G vs := by
  induction ss with
  | nil => intro f vs x h G hG; cases vs <;> first | (cases h; done) | exact hG
  | cons s ss ih =>
    intro f vs x h G hG
    cases vs with
    | nil => cases h
    | cons v vs =>
      simp only [apF] at h
      split at h
      · rename_i g hg; exact ih h (apS_all hg hG)
      · cases h
theorem ap_some {X : Type} {ss : List Sh} {f : Cur X ss} {vs : List Value} {F : X → Prop} (h : ap ss f vs F) : ∃ x, apF ss f vs = some x ∧ F x := by
  unfold ap at h
  cases hq : apF ss f vs with
  | none => rw [hq] at h; exact h.elim
  | some x => rw [hq] at h; exact ⟨x, rfl, h⟩
theorem ap_mk {X : Type} {ss : List Sh} {f : Cur X ss} {vs : List Value} {F : X → Prop} {x : X} (h : apF ss f vs = some x) (hF : F x) : ap ss f vs F := by
  unfold ap; rw [h]; exact hF
theorem ap_all {X : Type} {ss : List Sh} {f : Cur X ss} {vs : List Value} {F : X → Prop} (h : ap ss f vs F) {G : List Value → Prop} (hG : All ss G) : G vs := by
  obtain ⟨x, hx, _⟩ := ap_some h
  exact apF_all hx hG
end Go.V

namespace Go.V
open Go.RowKit (Below)
def zipE : List (Nat × Sh) → List Value → Env → Env
  | (t, _) :: ms, v :: vs, e => (t, v) :: zipE ms vs e
  | _, _, e => e
def restr (e : Env) : List Nat → Env
  | [] => []
  | t :: ts => match get e t with | some v => (t, v) :: restr e ts | none => restr e ts
def getAll (e : Env) : List (Nat × Sh) → (List Value → Prop) → Prop
  | [], F => F []
  | (t, _) :: ms, F => ofV (get e t) fun v => getAll e ms fun vs => F (v :: vs)
def shs (ms : List (Nat × Sh)) : List Sh := match ms with | [] => [] | (_, s) :: r => s :: shs r
def opsWrite (t : Nat) : List Oper → Bool
  | [] => false
  | o :: os => (match o.dst with | some d => Nat.beq d t | none => false) || opsWrite t os
def writes (t : Nat) : Code → Bool
  | .region _ ops _ => opsWrite t ops.toList
  | .seq a b => writes t a || writes t b
  | .cond _ a b => writes t a || writes t b
  | .block _ c => writes t c
  | .loop c => writes t c
  | .skip => false
  | .ret => false
  | .exit _ => false
  | _ => true
def keepOk (c : Code) : List Nat → Bool
  | [] => true
  | t :: ts => !writes t c && keepOk c ts
def opsIn (N : Nat) : List Oper → Bool
  | [] => true
  | o :: os => (match o.dst with | some d => Nat.blt d N | none => true) && opsIn N os
def codeIn (N : Nat) : Code → Bool
  | .region _ ops _ => opsIn N ops.toList
  | .seq a b => codeIn N a && codeIn N b
  | .cond _ a b => codeIn N a && codeIn N b
  | .block _ c => codeIn N c
  | .loop c => codeIn N c
  | _ => true
abbrev Post := Exit → Env → World → Prop
def thenV (K : Env → World → Prop) (Q : Post) : Post
  | .normal, e, w => K e w
  | x, e, w => Q x e w
def blockV (id : Nat) (Q : Post) : Post
  | .exit i, e, w => match Nat.beq i id with | true => Q .normal e w | false => Q (.exit i) e w
  | x, e, w => Q x e w
def DrewK (w : World) (F : World → Prop) : Prop := F w.drew
def WP (P : Program) (T : Tab) : Code → Ann → Post → Env → World → Prop
  | .skip, _, Q, e, w => Q .normal e w
  | .ret, _, Q, e, w => Q .ret e w
  | .exit i, _, Q, e, w => Q (.exit i) e w
  | .region _ ops false, _, Q, e, w => opsV P T ops ops.toList e (fun e' w' => Q .normal e' w') w
  | .region _ ops true, ann, Q, e, w => match ann with
    | .any n p => (match regOkM T ops n p with
      | true => DrewK w fun w1 => anyV P T ops w1 (fun _ => false) (fun w2 => Cel w1 w2) p e (fun e' w' => opsV P T ops (ops.toList.drop n) e' (fun e'' w'' => Q .normal e'' w'') w') w1
      | false => False)
    | .anyS n p => (match regOkM T ops n p with
      | true => DrewK w fun w1 => ∃ v0, Cel v0 w1 ∧ anyV P T ops v0 (fun _ => false) (fun w2 => Cel v0 w2) p e (fun e' w' => opsV P T ops (ops.toList.drop n) e' (fun e'' w'' => Q .normal e'' w'') w') w1
      | false => False)
    | .anyC n p => (match regOkM T ops n p with
      | true => DrewK w fun w1 => anyV P T ops w1 (clB T ops n) (fun w2 => Cel w1 w2) p e (fun e' w' => opsV P T ops (ops.toList.drop n) e' (fun e'' w'' => Q .normal e'' w'') w') w1
      | false => False)
    | .anyD n p => (match regOkM T ops n p with
      | true => DrewK w fun w1 => ∃ v0, Cel v0 w1 ∧ anyV P T ops v0 (clB T ops n) (fun w2 => Cel v0 w2) p e (fun e' w' => opsV P T ops (ops.toList.drop n) e' (fun e'' w'' => Q .normal e'' w'') w') w1
      | false => False)
    | .any2 n p q => (match regOk2 T ops n p q with
      | true => DrewK w fun w1 => anyV P T ops w1 (fun _ => false) (fun w2 => Cel w1 w2) p e (fun e' w' => anyV P T ops w' (fun _ => false) (fun _ => True) q e' (fun e'' w'' => Q .normal e'' w'') w') w1
      | false => False)
    | _ => False
  | .seq a b, ann, Q, e, w => match ann with
    | .two x y => WP P T a x (thenV (fun e' w' => WP P T b y Q e' w') Q) e w
    | .cut ms keep x y => (match keepOk a keep with
      | true => ∃ J : Cur (World → Prop) (shs ms), (∀ w, All (shs ms) fun vs => ap (shs ms) J vs (fun p => p w) → WP P T b y Q (zipE ms vs (restr e keep)) w) ∧
          WP P T a x (thenV (fun e' w' => getAll e' ms fun vs => ap (shs ms) J vs fun p => p w') Q) e w
      | false => False)
    | _ => False
  | .cond c a b, ann, Q, e, w => match ann with
    | .two x y => ofV (ev e c) fun v => boolOf v fun t => BoolK t (WP P T a x Q e w) (WP P T b y Q e w)
    | _ => False
  | .block id c, ann, Q, e, w => match ann with
    | .one x => WP P T c x (blockV id Q) e w
    | _ => False
  | .loop c, ann, Q, e, w => match ann with
    | .loop ms keep x => (match keepOk c keep with
      | true => ∃ (I : Cur (World → Prop) (shs ms)) (μ : Cur (World → Nat) (shs ms)), (getAll e ms fun vs => ap (shs ms) I vs (fun p => p w) ∧ ap (shs ms) μ vs fun _ => True) ∧
          ∀ w, All (shs ms) fun vs => ap (shs ms) I vs (fun p => p w) → ap (shs ms) μ vs fun m =>
            WP P T c x (thenV (fun e' w' => getAll e' ms fun vs' => ap (shs ms) I vs' (fun p => p w') ∧ ap (shs ms) μ vs' fun m' => m' w' < m w) Q) (zipE ms vs (restr e keep)) w
      | false => False)
    | _ => False
  | _, _, _, _, _ => False
theorem getAll_some {e : Env} {ms : List (Nat × Sh)} : ∀ {F : List Value → Prop}, getAll e ms F → ∃ vs, F vs ∧ ∀ (k t : Nat) (s : Sh) (v : Value), ms[k]? = some (t, s) → vs[k]? = some v → get e t = some v := by
  induction ms with
  | nil => intro F h; exact ⟨[], h, fun k t s v hk => by simp at hk⟩
  | cons x ms ih =>
    obtain ⟨t, s⟩ := x
    intro F h
    obtain ⟨v, hv, h⟩ := ofV_some h
    obtain ⟨vs, hF, hg⟩ := ih h
    refine ⟨v :: vs, hF, fun k t' s' v' hk hv' => ?_⟩
    cases k with
    | zero => simp at hk hv'; obtain ⟨rfl, rfl⟩ := hk; subst hv'; exact hv
    | succ k => simp at hk hv'; exact hg k t' s' v' hk hv'
theorem Ag.restr {N : Nat} {D : Nat → Bool} {a a' : Act} {e e' : Env} (hA : Ag N a e) (hA' : Ag N a' e') (hS : Same D a a') {keep : List Nat} (hk : ∀ t ∈ keep, D t = false) : Ag N a' (V.restr e keep) := by
  induction keep with
  | nil => exact ⟨hA'.size, fun t v h => by simp [V.restr, get] at h⟩
  | cons t ts ih =>
    have ih := ih fun u hu => hk u (List.mem_cons_of_mem _ hu)
    unfold V.restr
    split
    · rename_i v hv
      exact ih.more (by rw [hS.slot t (hk t List.mem_cons_self)]; exact hA.at_ t v hv)
    · exact ih
theorem Ag.zipE {N : Nat} {a : Act} {e e' : Env} (hA : Ag N a e) : ∀ {ms : List (Nat × Sh)} {vs : List Value}, Ag N a e' → (∀ (k t : Nat) (s : Sh) (v : Value), ms[k]? = some (t, s) → vs[k]? = some v → get e t = some v) → Ag N a (V.zipE ms vs e')
  | [], _, h, _ => h
  | (t, s) :: ms, [], h, _ => h
  | (t, s) :: ms, v :: vs, h, hg => by
    have ih := Ag.zipE hA (ms := ms) (vs := vs) h fun k t' s' v' hk hv => hg (k + 1) t' s' v' (by simpa using hk) (by simpa using hv)
    exact ih.more (hA.at_ t v (hg 0 t s v rfl rfl))
theorem keepOk_mem {c : Code} {keep : List Nat} (h : keepOk c keep = true) : ∀ t ∈ keep, writes t c = false := by
  induction keep with
  | nil => simp
  | cons t ts ih =>
    simp only [keepOk, Bool.and_eq_true] at h
    intro u hu
    rcases List.mem_cons.1 hu with rfl | hu
    · simpa using h.1
    · exact ih h.2 u hu
theorem opsIn_mem {N : Nat} {os : List Oper} (h : opsIn N os = true) : ∀ o ∈ os, ∀ t, o.dst = some t → t < N := by
  induction os with
  | nil => simp
  | cons o os ih =>
    simp only [opsIn, Bool.and_eq_true] at h
    intro o' ho' t ht
    rcases List.mem_cons.1 ho' with rfl | ho'
    · have := h.1; rw [ht] at this; rw [Nat.blt_eq] at this; exact this
    · exact ih h.2 o' ho' t ht
theorem opsWrite_mem {os : List Oper} {o : Oper} (ho : o ∈ os) {t : Nat} (ht : o.dst = some t) : opsWrite t os = true := by
  induction os with
  | nil => cases ho
  | cons x os ih =>
    rcases List.mem_cons.1 ho with rfl | ho
    · simp [opsWrite, ht]
    · simp [opsWrite, ih ho]
def lift (N : Nat) (D : Nat → Bool) (a : Act) (Q : Post) : Exit → Act → World → Prop := fun x a' w' =>
  match x with
  | .panic _ => False
  | x => ∃ e', Ag N a' e' ∧ Same D a a' ∧ Q x e' w'
theorem wp_loop_rel {P : Program} {c : Code} {Q : Exit → Act → World → Prop} (R : Nat → Act → World → Prop) (round : ∀ n a w, R n a w → c.wp P (Exit.then (fun a' w' => ∃ m, m < n ∧ R m a' w') Q) a w)
    {n : Nat} {a : Act} {w : World} (h0 : R n a w) : (Code.loop c).wp P Q a w := by
  intro b k cs
  have key : ∀ n a w, R n a w → ∃ e a' w', Q e a' w' ∧ Arrives P (lone (b.at a (.code c :: .inLoop c :: k)) cs w) b k cs e a' w' := by
    intro n
    induction n using Nat.strongRecOn with
    | _ n ih =>
      intro a w h
      obtain ⟨e, a₁, w₁, hq, harr⟩ := round n a w h b (.inLoop c :: k) cs
      cases e with
      | normal =>
        obtain ⟨m, hlt, hR⟩ := hq
        obtain ⟨e₂, a₂, w₂, hq₂, harr₂⟩ := ih m hlt a₁ w₁ hR
        exact ⟨e₂, a₂, w₂, hq₂, .of_steps (Steps.trans harr (.one step_inLoop)) harr₂⟩
      | exit id => exact ⟨_, a₁, w₁, hq, .pass (x := .inLoop c) rfl (fun _ _ => .inl (by simp)) harr⟩
      | goto l => exact ⟨_, a₁, w₁, hq, .pass (x := .inLoop c) rfl (fun _ _ => .inl (by simp)) harr⟩
      | ret => exact ⟨_, a₁, w₁, hq, .pass (x := .inLoop c) rfl (fun _ _ => .inl (by simp)) harr⟩
      | panic ch => exact ⟨_, a₁, w₁, hq, .pass (x := .inLoop c) rfl (fun _ _ => .inl (by simp)) harr⟩
      | outgrown => exact ⟨_, a₁, w₁, hq, .pass (x := .inLoop c) rfl (fun _ _ => .inl (by simp)) harr⟩
  obtain ⟨e, a', w', hq, harr⟩ := key n a w h0
  exact ⟨e, a', w', hq, .of_steps (.one step_loop) harr⟩
section
variable {P : Program} {T : Tab} (hT : T.Ok P) (hm : P.follows .mixedOrders = true)
theorem lift_mono {N : Nat} {D D' : Nat → Bool} {a a0 : Act} {Q : Post} {x : Exit} {a' : Act} {w' : World} (h : lift N D a Q x a' w') (hS : Same D' a0 a) (hD : ∀ t, D' t = false → D t = false) :
    lift N D' a0 Q x a' w' := by
  cases x <;> first | exact h | (obtain ⟨e', h1, h2, h3⟩ := h; exact ⟨e', h1, hS.trans (h2.mono hD), h3⟩)
theorem within_region {N : Nat} {ops : Array Oper} {id : Nat} {d : Bool} (h : opsIn N ops.toList = true) : Within N (fun t => writes t (.region id ops d)) ops.toList :=
  fun o ho t ht => ⟨opsIn_mem h o ho t ht, opsWrite_mem ho ht⟩
include hT hm in
theorem WP_sound {N : Nat} : ∀ (c : Code) (ann : Ann) (Q : Post) (e : Env) (w : World) (a : Act), codeIn N c = true → Ag N a e → WP P T c ann Q e w → c.wp P (lift N (fun t => writes t c) a Q) a w
  | .skip, ann, Q, e, w, a, _, hA, h => wp_skip ⟨e, hA, Same.refl _ _, h⟩
  | .ret, ann, Q, e, w, a, _, hA, h => wp_ret ⟨e, hA, Same.refl _ _, h⟩
  | .exit i, ann, Q, e, w, a, _, hA, h => wp_exit ⟨e, hA, Same.refl _ _, h⟩
  | .region id ops false, ann, Q, e, w, a, hN, hA, h => by
    refine wp_region_list ?_
    refine opsV_sound hT (D := fun t => writes t (.region id ops false)) (a0 := a) _ _ _ _ (within_region hN) hA (Same.refl _ _) h ?_
    exact fun a' e' w' hA' hS' hq => ⟨e', hA', hS', hq⟩
  | .region id ops true, ann, Q, e, w, a, hN, hA, h => by
    cases ann with
    | any n p =>
      simp only [WP] at h
      split at h
      · rename_i hok
        exact region_any hT (D := fun t => writes t (.region id ops true)) (ClOk.none _ _ _) (Cel.refl _) hm (regOkM_ok hok) (within_region hN) (fun c a a' w hq => hq) hA h fun a' e' w' hA' hS' hq => ⟨e', hA', hS', hq⟩
      · exact h.elim
    | anyS n p =>
      simp only [WP] at h
      split at h
      · rename_i hok
        obtain ⟨v0, hv, h⟩ := h
        exact region_any hT (D := fun t => writes t (.region id ops true)) (ClOk.none _ _ _) hv hm (regOkM_ok hok) (within_region hN) (fun c a a' w hq => hq) hA h fun a' e' w' hA' hS' hq => ⟨e', hA', hS', hq⟩
      · exact h.elim
    | anyC n p =>
      simp only [WP] at h
      split at h
      · rename_i hok
        exact region_any hT (D := fun t => writes t (.region id ops true)) (ClOk.clB _ _ _) (Cel.refl _) hm (regOkM_ok hok) (within_region hN) (fun c a a' w hq => hq) hA h fun a' e' w' hA' hS' hq => ⟨e', hA', hS', hq⟩
      · exact h.elim
    | anyD n p =>
      simp only [WP] at h
      split at h
      · rename_i hok
        obtain ⟨v0, hv, h⟩ := h
        exact region_any hT (D := fun t => writes t (.region id ops true)) (ClOk.clB _ _ _) hv hm (regOkM_ok hok) (within_region hN) (fun c a a' w hq => hq) hA h fun a' e' w' hA' hS' hq => ⟨e', hA', hS', hq⟩
      · exact h.elim
    | any2 n p q =>
      simp only [WP] at h
      split at h
      · rename_i hok
        exact region_any2 hT (D := fun t => writes t (.region id ops true)) hm hok (within_region hN) (fun c a a' w hq => hq) hA h fun a' e' w' hA' hS' hq => ⟨e', hA', hS', hq⟩
      · exact h.elim
    | _ => exact h.elim
  | .seq c d, ann, Q, e, w, a, hN, hA, h => by
    simp only [codeIn, Bool.and_eq_true] at hN
    have hD1 : ∀ t, writes t (.seq c d) = false → writes t c = false := fun t ht => by simp only [writes, Bool.or_eq_false_iff] at ht; exact ht.1
    have hD2 : ∀ t, writes t (.seq c d) = false → writes t d = false := fun t ht => by simp only [writes, Bool.or_eq_false_iff] at ht; exact ht.2
    cases ann <;> first | exact h.elim | skip
    · rename_i x y
      refine wp_seq (wp_mono (WP_sound c x _ e w a hN.1 hA h) fun z a' w' hz => ?_)
      cases z with
      | normal =>
        obtain ⟨e', hA', hS', h'⟩ := hz
        exact wp_mono (WP_sound d y Q e' w' a' hN.2 hA' h') fun z a'' w'' hz => lift_mono hz (hS'.mono hD1) hD2
      | panic ch => exact hz
      | _ => obtain ⟨e', hA', hS', h'⟩ := hz; exact ⟨e', hA', hS'.mono hD1, h'⟩
    · rename_i ms keep x y
      simp only [WP] at h
      split at h
      case h_2 => exact h.elim
      rename_i hk
      obtain ⟨J, hy, hx⟩ := h
      refine wp_seq (wp_mono (WP_sound c x _ e w a hN.1 hA hx) fun z a' w' hz => ?_)
      cases z with
      | normal =>
        obtain ⟨e', hA', hS', h'⟩ := hz
        obtain ⟨vs, hJ, hg⟩ := getAll_some (show getAll e' ms _ from h')
        have hA2 : Ag N a' (zipE ms vs (restr e keep)) := hA'.zipE (hA.restr hA' hS' fun t ht => keepOk_mem hk t ht) hg
        have := ap_all hJ (hy w') hJ
        exact wp_mono (WP_sound d y Q _ w' a' hN.2 hA2 this) fun z a'' w'' hz => lift_mono hz (hS'.mono hD1) hD2
      | panic ch => exact hz
      | _ => obtain ⟨e', hA', hS', h'⟩ := hz; exact ⟨e', hA', hS'.mono hD1, h'⟩
  | .cond c x y, ann, Q, e, w, a, hN, hA, h => by
    simp only [codeIn, Bool.and_eq_true] at hN
    cases ann <;> first | exact h.elim | skip
    rename_i p q
    obtain ⟨v, hv, h⟩ := ofV_some h
    obtain ⟨t, rfl, h⟩ := boolOf_some h
    have hc := ev_eval hA hv
    have hD1 : ∀ t, writes t (.cond c x y) = false → writes t x = false := fun t ht => by simp only [writes, Bool.or_eq_false_iff] at ht; exact ht.1
    have hD2 : ∀ t, writes t (.cond c x y) = false → writes t y = false := fun t ht => by simp only [writes, Bool.or_eq_false_iff] at ht; exact ht.2
    cases t with
    | true => exact wp_cond_true hc (wp_mono (WP_sound x p Q e w a hN.1 hA h) fun z a' w' hz => lift_mono hz (Same.refl _ _) hD1)
    | false => exact wp_cond_false hc (wp_mono (WP_sound y q Q e w a hN.2 hA h) fun z a' w' hz => lift_mono hz (Same.refl _ _) hD2)
  | .block id c, ann, Q, e, w, a, hN, hA, h => by
    cases ann <;> first | exact h.elim | skip
    rename_i x
    refine wp_block (wp_mono (WP_sound c x _ e w a hN hA h) fun z a' w' hz => ?_)
    cases z with
    | exit i =>
      obtain ⟨e', hA', hS', h'⟩ := hz
      simp only [blockV] at h'
      simp only [Exit.inBlock]
      split at h'
      · rename_i hb
        rw [if_pos (Nat.eq_of_beq_eq_true hb)]
        exact ⟨e', hA', hS', h'⟩
      · rename_i hb
        rw [if_neg (fun hh => by subst hh; simp at hb)]
        exact ⟨e', hA', hS', h'⟩
    | panic ch => exact hz
    | _ => obtain ⟨e', hA', hS', h'⟩ := hz; exact ⟨e', hA', hS', h'⟩
  | .loop c, ann, Q, e, w, a, hN, hA, h => by
    cases ann <;> first | exact h.elim | skip
    rename_i ms keep x
    simp only [WP] at h
    split at h
    case h_2 => exact h.elim
    rename_i hk
    obtain ⟨I, μ, h0, hr⟩ := h
    obtain ⟨vs0, ⟨hI0, hM0⟩, hg0⟩ := getAll_some h0
    let R : Nat → Act → World → Prop := fun n a' w' => ∃ vs, Ag N a' (zipE ms vs (restr e keep)) ∧ Same (fun t => writes t c) a a' ∧ ap (shs ms) I vs (fun p => p w') ∧ ap (shs ms) μ vs (fun m => m w' = n)
    obtain ⟨m0, hm0, _⟩ := ap_some hM0
    have hA2 : Ag N a (zipE ms vs0 (restr e keep)) := hA.zipE (hA.restr hA (Same.refl _ _) (D := fun t => writes t c) fun t ht => keepOk_mem hk t ht) hg0
    refine wp_loop_rel R ?_ (n := m0 w) ⟨vs0, hA2, Same.refl _ _, hI0, ap_mk hm0 rfl⟩
    rintro n a1 w1 ⟨vs, hA1, hS1, hI1, hM1⟩
    obtain ⟨m, hm1, hmn⟩ := ap_some hM1
    obtain ⟨m', hm2, hbody⟩ := ap_some (ap_all hI1 (hr w1) hI1)
    rw [hm1] at hm2
    cases hm2
    refine wp_mono (WP_sound c x _ _ w1 a1 hN hA1 hbody) fun z a' w' hz => ?_
    cases z with
    | normal =>
      obtain ⟨e', hA', hS', h'⟩ := hz
      obtain ⟨vs', ⟨hI', hM'⟩, hg'⟩ := getAll_some (show getAll e' ms _ from h')
      have hA2 : Ag N a' (zipE ms vs' (restr e keep)) := hA'.zipE (hA.restr hA' (hS1.trans hS') fun t ht => keepOk_mem hk t ht) hg'
      obtain ⟨m', hm', hlt⟩ := ap_some hM'
      exact ⟨m' w', by rw [← hmn]; exact hlt, vs', hA2, hS1.trans hS', hI', ap_mk hm' rfl⟩
    | panic ch => exact hz
    | _ => obtain ⟨e', hA', hS', h'⟩ := hz; exact ⟨e', hA', hS1.trans hS', h'⟩
  | .rangeFunc .., _, _, _, _, _, _, _, h => h.elim
  | .scope _, _, _, _, _, _, _, _, h => h.elim
  | .label _, _, _, _, _, _, _, _, h => h.elim
  | .goto _, _, _, _, _, _, _, _, h => h.elim
  | .refuse _, _, _, _, _, _, _, _, h => h.elim
/-! ### Functions -/
def resV (T : Tab) (e : Env) (w : World) : List ResultVar → (List Value → Prop) → Prop
  | [], F => F []
  | .tmp t :: r, F => ofV (get e t) fun v => resV T e w r fun vs => F (v :: vs)
  | .cell a t :: r, F => ofV (get e a) fun v => ptrOf v fun p => match T.t t with | some i => ldSh i.sh w p fun u => resV T e w r fun vs => F (u :: vs) | none => False
def tupled : List Value → Value
  | [v] => v
  | vs => .tuple vs.toArray
def fnQ (T : Tab) (rv : List ResultVar) (rs : List Sh) (K : Cur (World → Prop) rs) : Post := fun x e w =>
  match x with
  | .normal => resV T e w rv fun vs => ap rs K vs fun p => p w
  | .ret => resV T e w rv fun vs => ap rs K vs fun p => p w
  | _ => False
def argE (i : Nat) : List Value → Env
  | [] => []
  | v :: vs => (i, v) :: argE (i + 1) vs
def rvS (a : Act) : ResultVar → Sem Value
  | .tmp t => pure (a.tmps.getD t undef)
  | .cell b t => do loadVar t (← asAddr (a.tmps.getD b undef))
include hT in
theorem resV_run {N : Nat} {a : Act} {e : Env} {w : World} (hA : Ag N a e) : ∀ {rv : List ResultVar} {F : List Value → Prop}, resV T e w rv F →
    ∃ vs, F vs ∧ (rv.mapM (rvS a)).run P w = .ok vs w
  | [], F, h => ⟨[], h, rfl⟩
  | .tmp t :: r, F, h => by
    obtain ⟨v, hv, h⟩ := ofV_some h
    obtain ⟨vs, hF, hr⟩ := resV_run hA h
    refine ⟨_, hF, ?_⟩
    have h1 : (rvS a (.tmp t)).run P w = .ok v w := by simp only [rvS, Sem.run_pure, hA.at_ t v hv]
    rw [List.mapM_cons]
    simp only [Sem.run_bind, Sem.run_pure, Result.andThen_ok, hr, h1]
  | .cell b t :: r, F, h => by
    obtain ⟨v, hv, h⟩ := ofV_some h
    obtain ⟨p, rfl, h⟩ := ptrOf_some h
    split at h
    · rename_i i hi
      obtain ⟨u, h, hl⟩ := ldSh_run (hT.tyOk hi).1 h
      obtain ⟨vs, hF, hr⟩ := resV_run hA h
      refine ⟨_, hF, ?_⟩
      have h1 : (rvS a (.cell b t)).run P w = .ok u w := by simp only [rvS, Sem.run_bind, hA.at_ b _ hv, asAddr, Sem.run_pure, Result.andThen_ok, hl w (Cel.refl _)]
      rw [List.mapM_cons]
      simp only [Sem.run_bind, Sem.run_pure, Result.andThen_ok, hr, h1]
    · exact h.elim
theorem argE_get (vs : List Value) : ∀ i t v, get (argE i vs) t = some v → i ≤ t ∧ vs[t - i]? = some v := by
  induction vs with
  | nil => intro i t v h; cases h
  | cons u vs ih =>
    intro i t v h
    by_cases hit : i = t
    · subst hit
      rw [argE, get_cons_same] at h
      cases h
      exact ⟨Nat.le_refl _, by simp⟩
    · rw [argE, get_cons_ne hit] at h
      obtain ⟨h1, h2⟩ := ih (i + 1) t v h
      exact ⟨by omega, by rw [show t - i = (t - (i + 1)) + 1 by omega, List.getElem?_cons_succ]; exact h2⟩
theorem apC_ex {X : Type} {c : Cell} {f : CurC X c} {v : Value} {x : X} (h : apC c f v = some x) {H : Value → Prop} (hH : H v) : ExC c H := by
  cases c <;> cases v <;> first | (cases h; done) | exact ⟨_, hH⟩ | exact ⟨_, _, _, hH⟩ | skip
  · rename_i k j n
    simp only [apC] at h
    split at h
    · rename_i hk; have := of_decide_eq_true hk; subst this; exact ⟨_, hH⟩
    · cases h
  · rename_i fn x y
    cases fn <;> first | (cases h; done) | skip
    simp only [apC] at h
    split at h
    · rename_i h1 h2
      have e1 : x = #[] := by apply Array.ext'; simpa using h1
      have e2 : y = #[] := by apply Array.ext'; simpa using h2
      subst e1; subst e2
      exact ⟨_, hH⟩
    · cases h
  · rename_i fn x y
    cases fn <;> first | (cases h; done) | skip
    simp only [apC] at h
    split at h
    · rename_i h1
      have e1 : x = #[] := by apply Array.ext'; simpa using h1
      subst e1
      exact ⟨_, _, hH⟩
    · cases h
theorem apCs_ex {X : Type} {cs : List Cell} : ∀ {f : CurCs X cs} {vs : List Value} {x : X}, apCs cs f vs = some x → ∀ {H : List Value → Prop}, H vs → ExCs cs H := by
  induction cs with
  | nil => intro f vs x h H hH; cases vs <;> first | (cases h; done) | exact hH
  | cons c cs ih =>
    intro f vs x h H hH
    cases vs with
    | nil => cases h
    | cons v vs =>
      simp only [apCs] at h
      split at h
      · rename_i g hg; exact apC_ex hg (H := fun v => ExCs cs fun vs => H (v :: vs)) (ih h (H := fun vs => H (v :: vs)) hH)
      · cases h
theorem apS_ex {X : Type} {s : Sh} {f : CurS X s} {v : Value} {x : X} (h : apS s f v = some x) {H : Value → Prop} (hH : H v) : ExSh s H := by
  cases s with
  | one c => exact apC_ex h hH
  | agg cs => cases v <;> first | (cases h; done) | exact apCs_ex (cs := cs) h (H := fun vs => H (.agg vs.toArray)) hH
  | row n => cases v <;> first | (cases h; done) | exact ⟨_, hH⟩
theorem apF_ex {X : Type} {ss : List Sh} : ∀ {f : Cur X ss} {vs : List Value} {x : X}, apF ss f vs = some x → ∀ {H : List Value → Prop}, H vs → ExShs ss H := by
  induction ss with
  | nil => intro f vs x h H hH; cases vs <;> first | (cases h; done) | exact hH
  | cons s ss ih =>
    intro f vs x h H hH
    cases vs with
    | nil => cases h
    | cons v vs =>
      simp only [apF] at h
      split at h
      · rename_i g hg; exact apS_ex hg (H := fun v => ExShs ss fun vs => H (v :: vs)) (ih h (H := fun vs => H (v :: vs)) hH)
      · cases h
include hT hm in
theorem fn_sound {f : FuncId} {fn : Func} {c : Code} (hf : P.funcs[f]? = some fn) (hb : fn.body = some c) (ann : Ann) (args : List Value) (rs : List Sh) (K : Cur (World → Prop) rs) (w : World)
    (hN : (codeIn fn.ntmps c && Nat.ble args.length fn.ntmps) = true) (h : WP P T c ann (fnQ T fn.results.toList rs K) (argE 0 args) w) :
    Calls P f args.toArray w fun en w' => ExShs rs fun vs => en = .returned (tupled vs) ∧ ap rs K vs fun p => p w' := by
  simp only [Bool.and_eq_true] at hN
  have hlen := Nat.le_of_ble_eq_true hN.2
  refine calls_of_wp hf hb ?_
  have hA : Ag fn.ntmps { tmps := args.toArray ++ Array.replicate (fn.ntmps - args.toArray.size) undef, defers := [] } (argE 0 args) := by
    refine ⟨by simp; omega, fun t v ht => ?_⟩
    obtain ⟨_, h2⟩ := argE_get args 0 t v ht
    simp only [Nat.sub_zero] at h2
    have hlt : t < args.length := (List.getElem?_eq_some_iff.1 h2).1
    rw [Array.getD_eq_getD_getElem?, Array.getElem?_append_left (by simpa using hlt)]
    simp [h2]
  refine wp_mono (WP_sound hT hm c ann _ _ w _ hN.1 hA h) fun x a' w' hx => ?_
  have fin : ∀ {e' : Env}, a'.defers = [] → Ag fn.ntmps a' e' → resV T e' w' fn.results.toList (fun vs => ap rs K vs fun p => p w') →
      a'.defers = [] ∧ ∃ v, (results fn a'.tmps).run P w' = .ok v w' ∧ ExShs rs fun vs => Ending.returned v = .returned (tupled vs) ∧ ap rs K vs fun p => p w' := by
    intro e' hd hA' hr
    obtain ⟨vs, hK, hrun⟩ := resV_run hT hA' hr
    obtain ⟨x, hx, _⟩ := ap_some hK
    refine ⟨hd, tupled vs, ?_, apF_ex hx ⟨rfl, hK⟩⟩
    unfold results
    have hrun' : (fn.results.mapM (rvS a')).run P w' = .ok vs.toArray w' := by
      rw [Array.mapM_eq_mapM_toList, Sem.run_map, hrun]; rfl
    show ((fn.results.mapM (rvS a') >>= fun vs => (pure (if h : vs.size = 1 then vs[0] else .tuple vs) : Sem Value))).run P w' = _
    rw [Sem.run_bind, hrun']
    simp only [Result.andThen_ok, Sem.run_pure]
    congr 1
    match vs with
    | [] => rfl
    | [v] => rfl
    | _ :: _ :: _ => rfl
  cases x with
  | normal => obtain ⟨e', hA', hs, hr⟩ := hx; exact fin hs.defers hA' hr
  | ret => obtain ⟨e', hA', hs, hr⟩ := hx; exact fin hs.defers hA' hr
  | panic ch => exact hx.elim
  | exit i => obtain ⟨e', _, _, hr⟩ := hx; exact hr.elim
  | goto i => obtain ⟨e', _, _, hr⟩ := hx; exact hr.elim
  | outgrown => obtain ⟨e', _, _, hr⟩ := hx; exact hr.elim
end
end Go.V
namespace Go.V
/-! ### A seat's tables -/
def FAll (P : Program) : List (Nat × List Sh) → Prop
  | [] => True
  | x :: r => Enters P x.1 ∧ FAll P r
def ZAll (P : Program) : List (Nat × TInfo) → Prop
  | [] => True
  | x :: r => (match x.2.zero with | some l => zeroOf P x.1 = l.toArray | none => True) ∧ ZAll P r
def EqOk (P : Program) (t : Nat) (cs : List Cell) : Prop := ∀ xs ys w, areC cs xs = true → areC cs ys = true →
    (do eqGuard .eql t (.tmp 0) (.tmp 0) (.agg xs.toArray) (.agg ys.toArray); binOp .eql t (.agg xs.toArray) (.agg ys.toArray) : Sem Value).run P w = .ok (.bool (eqL xs ys)) w ∧
    (do eqGuard .neq t (.tmp 0) (.tmp 0) (.agg xs.toArray) (.agg ys.toArray); binOp .neq t (.agg xs.toArray) (.agg ys.toArray) : Sem Value).run P w = .ok (.bool (!eqL xs ys)) w
def EAll (P : Program) : List (Nat × TInfo) → Prop
  | [] => True
  | x :: r => (match x.2.eq with | some cs => EqOk P x.1 cs | none => True) ∧ EAll P r
theorem Tab.Ok.of {P : Program} {T : Tab} (h1 : T.ty.all (V.tyOk P) = true) (h2 : ZAll P T.ty) (h3 : EAll P T.ty) (h4 : FAll P T.fn) : T.Ok P := by
  refine ⟨h1, ?_, ?_, ?_⟩
  · intro t i l ht hl
    have key : ∀ (L : List (Nat × TInfo)), ZAll P L → ∀ x ∈ L, ∀ l, x.2.zero = some l → zeroOf P x.1 = l.toArray := by
      intro L
      induction L with
      | nil => intro _ x hx; cases hx
      | cons y L ih =>
        intro h x hx l hl
        rcases List.mem_cons.1 hx with rfl | hx
        · have := h.1; rw [hl] at this; exact this
        · exact ih h.2 x hx l hl
    exact key _ h2 _ (look_mem ht) l hl
  · intro t i cs ht hcs
    have key : ∀ (L : List (Nat × TInfo)), EAll P L → ∀ x ∈ L, ∀ cs, x.2.eq = some cs → EqOk P x.1 cs := by
      intro L
      induction L with
      | nil => intro _ x hx; cases hx
      | cons y L ih =>
        intro h x hx l hl
        rcases List.mem_cons.1 hx with rfl | hx
        · have := h.1; rw [hl] at this; exact this
        · exact ih h.2 x hx l hl
    exact key _ h3 _ (look_mem ht) cs hcs
  · intro f ss hf
    have key : ∀ (L : List (Nat × List Sh)), FAll P L → ∀ x ∈ L, Enters P x.1 := by
      intro L
      induction L with
      | nil => intro _ x hx; cases hx
      | cons y L ih =>
        intro h x hx
        rcases List.mem_cons.1 hx with rfl | hx
        · exact h.1
        · exact ih h.2 x hx
    exact key _ h4 _ (look_mem hf)
end Go.V

namespace Go.V
section
variable {P : Program}
def basicOk (P : Program) (t : Nat) (c : Cell) : Bool := match P.underlying t, c with
  | some (.int k), .int j => decide (k = j)
  | some .bool, .bool => true
  | some .string, .str => true
  | _, _ => false
theorem basic_eq {t : Nat} {c : Cell} (h : basicOk P t c = true) {x y : Value} (hx : isC c x = true) (hy : isC c y = true) (d : Nat) (w : World) :
    (Op.equalIn (d + 1) t x y).run P w = .ok (eq1 x y) w := by
  unfold basicOk at h
  split at h
  · rename_i k j hu
    cases x <;> simp only [isC, Bool.false_eq_true] at hx
    cases y <;> simp only [isC, Bool.false_eq_true] at hy
    rename_i k1 a k2 b
    have e1 := eq_of_beq hx
    have e2 := eq_of_beq hy
    subst e1; subst e2
    rw [run_equalIn_int w d t _ _ _ _ hu]
    simp [eq1]
  · rename_i hu
    cases x <;> simp only [isC, Bool.false_eq_true] at hx
    cases y <;> simp only [isC, Bool.false_eq_true] at hy
    rw [run_equalIn_bool' w d t _ _ hu]
    simp [eq1]
  · rename_i hu
    cases x <;> simp only [isC, Bool.false_eq_true] at hx
    cases y <;> simp only [isC, Bool.false_eq_true] at hy
    rw [run_equalIn_string w d t _ _ hu]
    simp [eq1, beq_toListBytes]
  · cases h
theorem basic_part {t : Nat} {c : Cell} (h : basicOk P t c = true) {xs : Array Value} {i : Nat} {v : Value} (hv : xs[i]? = some v) (w : World) : (part t xs i).run P w = .ok v w := by
  unfold basicOk at h
  split at h
  · rename_i hu; simp [part, isAgg, run_underlying hu, hv]
  · rename_i hu; simp [part, isAgg, run_underlying hu, hv]
  · rename_i hu; simp [part, isAgg, run_underlying hu, hv]
  · cases h
def fsOk (P : Program) : List Field → Nat → List Cell → Bool
  | [], _, [] => true
  | f :: fs, i, c :: cs => decide (f.name ≠ "_") && Nat.beq f.offset i && basicOk P f.type c && fsOk P fs (i + 1) cs
  | _, _, _ => false
theorem eqFields_run {xs ys : Array Value} (d : Nat) (w : World) : ∀ (fs : List Field) (i : Nat) (cs : List Cell) (x y : List Value), fsOk P fs i cs = true → areC cs x = true → areC cs y = true →
    (∀ j, x[j]? = xs[i + j]?) → (∀ j, y[j]? = ys[i + j]?) → (Op.eqFields (d + 1) xs ys fs).run P w = .ok (eqL x y) w := by
  intro fs
  induction fs with
  | nil =>
    intro i cs x y h hx hy _ _
    cases cs with
    | cons c cs => simp [fsOk] at h
    | nil =>
      cases x <;> simp [areC] at hx
      simp [Op.eqFields, eqL]
  | cons f fs ih =>
    intro i cs x y h hx hy h1 h2
    cases cs with
    | nil => simp [fsOk] at h
    | cons c cs =>
      simp only [fsOk, Bool.and_eq_true] at h
      obtain ⟨⟨⟨hn, ho⟩, hb⟩, h⟩ := h
      have hn := of_decide_eq_true hn
      have ho := Nat.eq_of_beq_eq_true ho
      cases x with
      | nil => simp [areC] at hx
      | cons u x =>
        cases y with
        | nil => simp [areC] at hy
        | cons v y =>
          simp only [areC, Bool.and_eq_true] at hx hy
          have hu : xs[f.offset]? = some u := by rw [ho]; simpa using (h1 0).symm
          have hv : ys[f.offset]? = some v := by rw [ho]; simpa using (h2 0).symm
          have ihh := ih (i + 1) cs x y h hx.2 hy.2 (fun j => by have := h1 (j + 1); simpa [Nat.add_assoc, Nat.add_comm 1 j] using this) (fun j => by have := h2 (j + 1); simpa [Nat.add_assoc, Nat.add_comm 1 j] using this)
          simp only [Op.eqFields, if_pos hn, Sem.run_bind, basic_part hb hu, basic_part hb hv, Result.andThen_ok, basic_eq hb hx.1 hy.1]
          cases he : eq1 u v with
          | true => simp only [Bool.not_true, Bool.false_eq_true, if_false, ihh, eqL, he, Bool.true_and]
          | false => simp [eqL, he]
theorem eqOk_struct {t : Nat} {cs : List Cell} {fs : Array Field} (hu : P.underlying t = some (.struct fs)) (hp : P.stoodInHeld t = false) (hg : P.eqGuardType P.depth t = false) (hf : fsOk P fs.toList 0 cs = true) : EqOk P t cs := by
  intro xs ys w hx hy
  have hfs : P.fieldsOf t = fs := by simp [Program.fieldsOf, hu]
  have he : (Op.equalIn 10000 t (.agg xs.toArray) (.agg ys.toArray)).run P w = .ok (eqL xs ys) w := by
    rw [show (10000 : Nat) = 9999 + 1 from rfl, run_equalIn_struct w 9999 t _ _ (by rw [hfs]; exact hu) hp, hfs]
    exact eqFields_run 9998 w fs.toList 0 cs xs ys hf hx hy (fun j => by simp) (fun j => by simp)
  constructor
  · rw [Sem.run_bind, run_eqGuard_agg w _ t _ _ _ _ hg, Result.andThen_ok, run_eql_struct, he]; rfl
  · rw [Sem.run_bind, run_eqGuard_agg w _ t _ _ _ _ hg, Result.andThen_ok, run_neq_struct, he]; rfl
theorem eqOk_array2 {t e : Nat} {c : Cell} (hu : P.underlying t = some (.array 2 e)) (he : basicOk P e c = true) (hz : (P.info? e).map (·.size) = some 1) (hg : P.eqGuardType P.depth t = false) : EqOk P t [c, c] := by
  intro xs ys w hx hy
  obtain ⟨x0, x1, rfl⟩ : ∃ x0 x1, xs = [x0, x1] := by
    match xs, hx with
    | [x0, x1], _ => exact ⟨x0, x1, rfl⟩
    | [], h => simp [areC] at h
    | [_], h => simp [areC] at h
    | _ :: _ :: _ :: _, h => simp [areC] at h
  obtain ⟨y0, y1, rfl⟩ : ∃ y0 y1, ys = [y0, y1] := by
    match ys, hy with
    | [x0, x1], _ => exact ⟨x0, x1, rfl⟩
    | [], h => simp [areC] at h
    | [_], h => simp [areC] at h
    | _ :: _ :: _ :: _, h => simp [areC] at h
  simp only [areC, Bool.and_eq_true] at hx hy
  have hsz : (sizeOf e).run P w = .ok 1 w := by
    cases hq : P.info? e with
    | none => simp [hq] at hz
    | some j => simp [hq] at hz; simp [sizeOf, typeInfo, hq, hz]
  have key : ∀ d, (Op.equalIn (d + 1 + 1) t (.agg #[x0, x1]) (.agg #[y0, y1])).run P w = .ok (eqL [x0, x1] [y0, y1]) w := by
    intro d
    have p0 := basic_part (P := P) he (xs := #[x0, x1]) (i := 0) (v := x0) rfl w
    have p1 := basic_part (P := P) he (xs := #[x0, x1]) (i := 1) (v := x1) rfl w
    have q0 := basic_part (P := P) he (xs := #[y0, y1]) (i := 0) (v := y0) rfl w
    have q1 := basic_part (P := P) he (xs := #[y0, y1]) (i := 1) (v := y1) rfl w
    have r0 := basic_eq (P := P) he hx.1 hy.1 d w
    have r1 := basic_eq (P := P) he hx.2.1 hy.2.1 d w
    rw [Op.equalIn]
    simp only [Sem.run_bind, run_underlying hu, Result.andThen_ok, hsz]
    rw [Std.Legacy.Range.forIn_eq_forIn_range']
    simp only [Std.Legacy.Range.size, Nat.sub_zero, Nat.add_one_sub_one, Nat.div_one, List.range'_succ, List.range'_zero, List.forIn_cons, List.forIn_nil, Sem.run_bind, Nat.zero_mul, Nat.zero_add, Nat.one_mul, p0, q0, r0, Result.andThen_ok]
    cases h0 : eq1 x0 y0 <;> cases h1 : eq1 x1 y1 <;> simp [eqL, h0, h1, p1, q1, r1]
  have key := key 9998
  constructor
  · rw [Sem.run_bind, run_eqGuard_agg w _ t _ _ _ _ hg, Result.andThen_ok, run_eql_struct, key]; rfl
  · rw [Sem.run_bind, run_eqGuard_agg w _ t _ _ _ _ hg, Result.andThen_ok, run_neq_struct, key]; rfl
end
end Go.V

namespace Go.V
open Go.RowKit (Below)
theorem add_mk (b o n : Nat) : (⟨b, o, none⟩ : Addr).add n = ⟨b, o + n, none⟩ := by
  unfold Addr.add; split
  · rename_i h; subst h; rfl
  · rfl
theorem wrap_id {x : Int} (h0 : -9223372036854775808 ≤ x) (h1 : x ≤ 9223372036854775807) : IntKind.wrap .i64 x = x := by rw [IntKind.wrap_i64]; omega
theorem wrap_succ {n : Nat} (h : n < 9223372036854775807) : IntKind.wrap .i64 ((n : Int) + 1) = ((n + 1 : Nat) : Int) := by rw [wrap_id] <;> omega
abbrev Ext (w w' : World) : Prop := Below w.heap.size w w'
theorem Ext.refl (w : World) : Ext w w := Below.refl _ _
theorem Ext.trans {a b c : World} (h : Ext a b) (k : Ext b c) : Ext a c := Below.trans h (k.mono h.size)
theorem Ext.cell {w w' : World} (h : Ext w w') {p : Addr} {v : Value} (hp : w.cell? p = some v) : w'.cell? p = some v := by
  rw [Below.cell h (block_lt_of_cell hp)]; exact hp
theorem Ext.blk {w w' : World} (h : Ext w w') {b : Nat} {o : Obj} (hb : w.heap[b]? = some o) : w'.heap[b]? = some o := by
  rw [h.block b (Array.getElem?_eq_some_iff.1 hb).1]; exact hb
theorem Ext.drew (w : World) : Ext w w.drew := (Below.refl _ _).drew
theorem Ext.grown {w w' : World} {row : Option Nat} (hg : w.grownBy w' row) (hr : row = none) : Ext w w' := by
  subst hr
  exact ⟨hg.os, hg.tape, hg.output, hg.size, fun k hk => hg.block k hk (by simp)⟩
/-! ### Blocks -/
def Blk (w : World) (b : Nat) (cs : Array Value) (t : Nat) : Prop := w.heap[b]? = some (.cells cs t (0, 0))
theorem Blk.lt {w : World} {b : Nat} {cs : Array Value} {t : Nat} (h : Blk w b cs t) : b < w.heap.size := (Array.getElem?_eq_some_iff.1 h).1
theorem Blk.cell {w : World} {b : Nat} {cs : Array Value} {t : Nat} (h : Blk w b cs t) (i : Nat) : w.cell? ⟨b, i, none⟩ = cs[i]? := by
  simp only [World.cell?]; rw [show w.heap[(⟨b, i, none⟩ : Addr).block]? = _ from h]; rfl
theorem Blk.frozen {w : World} {b : Nat} {cs : Array Value} {t : Nat} (h : Blk w b cs t) (i : Nat) : w.frozen? ⟨b, i, none⟩ = false := by
  simp only [World.frozen?]; rw [show w.heap[(⟨b, i, none⟩ : Addr).block]? = _ from h]; simp
theorem Blk.ext {w w' : World} {b : Nat} {cs : Array Value} {t : Nat} (h : Blk w b cs t) (k : Ext w w') : Blk w' b cs t := Ext.blk k h
structure But (b : Nat) (w w' : World) : Prop where
  os : w'.os = w.os
  tape : w'.tape = w.tape
  output : w'.output = w.output
  size : w'.heap.size = w.heap.size
  block : ∀ k, k ≠ b → w'.heap[k]? = w.heap[k]?
theorem But.below {b B : Nat} {w0 w w' : World} (h : But b w w') (k : Below B w0 w) (hB : B ≤ b) : Below B w0 w' :=
  ⟨h.os.trans k.os, h.tape.trans k.tape, h.output.trans k.output, by rw [h.size]; exact k.size, fun i hi => (h.block i (by omega)).trans (k.block i hi)⟩
theorem But.blk {b b' : Nat} {w w' : World} (h : But b w w') {cs : Array Value} {t : Nat} (hb : Blk w b' cs t) (hne : b' ≠ b) : Blk w' b' cs t := (h.block b' hne).trans hb
theorem But.cell {b : Nat} {w w' : World} (h : But b w w') {p : Addr} {v : Value} (hp : w.cell? p = some v) (hne : p.block ≠ b) : w'.cell? p = some v := by
  rw [World.cell?_of_block (w := w) (h.block p.block hne)]; exact hp
theorem But.trans {b : Nat} {a c d : World} (h : But b a c) (k : But b c d) : But b a d :=
  ⟨k.os.trans h.os, k.tape.trans h.tape, k.output.trans h.output, k.size.trans h.size, fun i hi => (k.block i hi).trans (h.block i hi)⟩
theorem AllocK.mk {w : World} {cs : Array Value} {t : Nat} {K : Addr → World → Prop}
    (h : ∀ (b : Nat) (w' : World), b = w.heap.size → Blk w' b cs t → Ext w w' → K ⟨b, 0, none⟩ w') : AllocK w cs t K := by
  refine h _ _ rfl ?_ ((Below.refl _ _).alloc (Nat.le_refl _) _)
  show (w.alloc (.cells cs t)).heap[w.heap.size]? = _
  exact heap_alloc_new w _
theorem SetK.mk {w : World} {b i : Nat} {cs : Array Value} {t : Nat} {v : Value} {F : World → Prop} (hb : Blk w b cs t) (hi : i < cs.size)
    (h : ∀ w', Blk w' b (cs.setIfInBounds i v) t → But b w w' → F w') : SetK w ⟨b, i, none⟩ v F := by
  refine ⟨⟨⟨_, by rw [hb.cell, Array.getElem?_eq_getElem hi]⟩, hb.frozen i⟩, h _ ?_ ⟨rfl, rfl, rfl, by simp, fun k hk => ?_⟩⟩
  · exact heap_setCell_same w b i cs t v hb
  · exact heap_setCell_other w ⟨b, i, none⟩ k v hk
theorem StRow.mk {w : World} {b n : Nat} {cs vs : Array Value} {t : Nat} {F : World → Prop} (hb : Blk w b cs t) (h1 : cs.size = n) (h2 : vs.size = n) (h3 : vs.all (·.oneCell') = true)
    (h : ∀ w', Blk w' b vs t → But b w w' → F w') : StRow w ⟨b, 0, none⟩ vs n F :=
  ⟨⟨h2, h3, rfl, rfl, cs, t, hb, h1⟩, h _ (setRow_heap w b cs vs t _ hb) ⟨rfl, rfl, rfl, by simp, fun k hk => setRow_other w b k vs hk⟩⟩
theorem local2 {w : World} {z0 z1 v0 v1 : Value} {t : Nat} {F : Addr → World → Prop}
    (h : ∀ (b : Nat) (w' : World), b = w.heap.size → Blk w' b #[v0, v1] t → Ext w w' → F ⟨b, 0, none⟩ w') :
    AllocK w #[z0, z1] t fun b w1 => SetK w1 (b.add 0) v0 fun w2 => SetK w2 (b.add 1) v1 fun w3 => F b w3 := by
  refine AllocK.mk fun b w1 hb h1 hx => ?_
  rw [add_mk, add_mk]
  refine SetK.mk h1 (by simp) fun w2 h2 g2 => SetK.mk h2 (by simp) fun w3 h3 g3 => ?_
  exact h b w3 hb (by simpa using h3) (g3.below (g2.below hx (by omega)) (by omega))
/-! ### Lists in memory -/
abbrev Cells := Nat → Option Value
def Rows {α : Type} (sz : Nat) (R : World → Cells → α → Prop) (w : World) (a : Option Addr) (l : Nat) (xs : List α) : Prop :=
  l = xs.length ∧ (xs = [] ∨ ∃ b o, a = some ⟨b, o, none⟩ ∧ ∀ i x, xs[i]? = some x → R w (fun j => w.cell? ⟨b, o + i * sz + j, none⟩) x)
def Mono {α : Type} (R : World → Cells → α → Prop) : Prop := ∀ w w' (f : Nat → Option Value) (g : Nat → Option Value) x, Ext w w' → (∀ j v, f j = some v → g j = some v) → R w f x → R w' g x
theorem Rows.ext {α : Type} {sz : Nat} {R : World → Cells → α → Prop} (hR : Mono R) {w w' : World} {a : Option Addr} {l : Nat} {xs : List α} (h : Rows sz R w a l xs) (k : Ext w w') : Rows sz R w' a l xs := by
  obtain ⟨h1, h2⟩ := h
  refine ⟨h1, h2.imp id ?_⟩
  rintro ⟨b, o, ha, hx⟩
  exact ⟨b, o, ha, fun i x hi => hR w w' _ _ x k (fun j v hv => k.cell hv) (hx i x hi)⟩
theorem Rows.nil {α : Type} (sz : Nat) (R : World → Cells → α → Prop) (w : World) (a : Option Addr) : Rows sz R w a 0 ([] : List α) := ⟨rfl, .inl rfl⟩
theorem Rows.get {α : Type} {sz : Nat} {R : World → Cells → α → Prop} {w : World} {a : Option Addr} {l : Nat} {xs : List α} (h : Rows sz R w a l xs) {i : Nat} (hi : i < xs.length) :
    ∃ b o, a = some ⟨b, o, none⟩ ∧ R w (fun j => w.cell? ⟨b, o + i * sz + j, none⟩) xs[i] := by
  obtain ⟨_, h | ⟨b, o, ha, hx⟩⟩ := h
  · subst h; simp at hi
  · exact ⟨b, o, ha, hx i _ (List.getElem?_eq_getElem hi)⟩
def RInt (_ : World) (f : Cells) (x : Int) : Prop := f 0 = some (.int .i64 x)
def RBool (_ : World) (f : Cells) (x : Bool) : Prop := f 0 = some (.bool x)
def RPair (_ : World) (f : Cells) (x : Int × Int) : Prop := f 0 = some (.int .i64 x.1) ∧ f 1 = some (.int .i64 x.2)
def RSl {α : Type} (sz : Nat) (R : World → Cells → α → Prop) (w : World) (f : Cells) (xs : List α) : Prop := ∃ a l c, f 0 = some (.slice a l c) ∧ Rows sz R w a l xs
theorem RInt.mono : Mono RInt := fun _ _ _ _ _ _ h k => h _ _ k
theorem RBool.mono : Mono RBool := fun _ _ _ _ _ _ h k => h _ _ k
theorem RPair.mono : Mono RPair := fun _ _ _ _ _ _ h k => ⟨h _ _ k.1, h _ _ k.2⟩
theorem RSl.mono {α : Type} {sz : Nat} {R : World → Cells → α → Prop} (hR : Mono R) : Mono (RSl sz R) :=
  fun _ _ _ _ _ e h ⟨a, l, c, h0, hr⟩ => ⟨a, l, c, h _ _ h0, hr.ext hR e⟩
abbrev Dom (w : World) (a : Option Addr) (l : Nat) (d : List (Int × Int)) : Prop := Rows 2 RPair w a l d
abbrev Ints (w : World) (a : Option Addr) (l : Nat) (d : List Int) : Prop := Rows 1 RInt w a l d
abbrev Doms (w : World) (a : Option Addr) (l : Nat) (d : List (List (Int × Int))) : Prop := Rows 1 (RSl 2 RPair) w a l d
theorem IdxMk {n : Int} {len : Nat} {k : Nat} (hn : n = k) (hk : k < len) : 0 ≤ n ∧ n < (len : Int) := by omega
end Go.V

namespace Go.V
open Go.RowKit (Below)
def symB : Nat := 9223372036854775808
structure Rn where
  blk : Nat → Nat
  off : Nat → Nat
  cap : Nat → Nat
  /-- the tokens, the capacity symbols that have been given -/
  dom : Nat → Prop
  cdom : Nat → Prop
def Rn.oD (ρ : Rn) (o : Option Addr) : Prop := ∀ p, o = some p → ρ.dom p.block
def Rn.cD (ρ : Rn) (c : Nat) : Prop := Nat.blt c symB = true ∨ ρ.cdom (c / 4294967296)
theorem Rn.oD_none (ρ : Rn) : ρ.oD none := fun p h => by cases h
theorem add_block (p : Addr) (i : Nat) : (p.add i).block = p.block := by unfold Addr.add; split <;> rfl
theorem Rn.oD_add {ρ : Rn} {p : Addr} (h : ρ.oD (some p)) (i : Nat) : ρ.oD (some (p.add i)) := fun q hq => by cases hq; rw [add_block]; exact h p rfl
theorem Rn.oD_map {ρ : Rn} {o : Option Addr} (h : ρ.oD o) (i : Nat) : ρ.oD (o.map (·.add i)) := by
  cases o with
  | none => exact ρ.oD_none
  | some p => exact Rn.oD_add h i
def Rn.c (ρ : Rn) (c : Nat) : Nat := bif Nat.blt c symB then c else ρ.cap (c / 4294967296) - c % 4294967296
theorem Rn.c_lit (ρ : Rn) {c : Nat} (h : Nat.blt c symB = true) : ρ.c c = c := by unfold Rn.c; rw [h, cond_true]
def subC (c l : Nat) : Option Nat := if Nat.blt c symB = true then some (c - l) else if c % 4294967296 + l < 4294967296 then some (c + l) else none
theorem subC_cD {ρ : Rn} {c l c' : Nat} (h : subC c l = some c') (k : ρ.cD c) : ρ.cD c' := by
  unfold subC at h
  split at h
  · rename_i hb
    cases h
    have h1 : c < symB := Nat.le_of_ble_eq_true hb
    exact .inl (Nat.ble_eq_true_of_le (by omega))
  · rename_i hb
    split at h
    · cases h
      rcases k with k | k
      · exact absurd k hb
      · right
        have e1 : (c + l) / 4294967296 = c / 4294967296 := by omega
        rw [e1]; exact k
    · cases h
theorem subC_ok (ρ : Rn) {c l c' : Nat} (h : subC c l = some c') : ρ.c c' = ρ.c c - l := by
  unfold subC at h
  split at h
  · rename_i hb
    cases h
    have h1 : c < symB := Nat.le_of_ble_eq_true hb
    have h2 : Nat.blt (c - l) symB = true := Nat.ble_eq_true_of_le (by omega)
    rw [ρ.c_lit hb, ρ.c_lit h2]
  · rename_i hb
    split at h
    · cases h
      have h1 : ¬ c < symB := fun hh => hb (Nat.ble_eq_true_of_le hh)
      have h2 : Nat.blt (c + l) symB = false := by
        cases e : Nat.blt (c + l) symB
        · rfl
        · have := Nat.le_of_ble_eq_true e; omega
      have h3 : Nat.blt c symB = false := by
        cases e : Nat.blt c symB
        · rfl
        · exact absurd e hb
      unfold Rn.c
      rw [h2, h3]
      simp only [cond_false]
      have e1 : (c + l) / 4294967296 = c / 4294967296 := by omega
      have e2 : (c + l) % 4294967296 = c % 4294967296 + l := by omega
      rw [e1, e2]; omega
    · cases h
def emp : Addr := ⟨0, 0, some 0⟩
def Rn.a (ρ : Rn) (p : Addr) : Addr := ⟨ρ.blk p.block, ρ.off p.block + p.off, p.spot⟩
theorem Rn.a_add (ρ : Rn) (p : Addr) (i : Nat) : (ρ.a p).add i = ρ.a (p.add i) := by
  unfold Addr.add; split
  · rfl
  · simp [Rn.a, Nat.add_assoc]
inductive VR (ρ : Rn) : Value → Value → Prop
  | bool (b : Bool) : VR ρ (.bool b) (.bool b)
  | int (k : IntKind) (n : Int) : VR ρ (.int k n) (.int k n)
  | string (s : ByteArray) : VR ρ (.string s) (.string s)
  | pointer (o : Option Addr) : ρ.oD o → VR ρ (.pointer o) (.pointer (o.map ρ.a))
  | slice (o : Option Addr) (l c : Nat) : l ≤ ρ.c c → ρ.oD o → ρ.cD c → VR ρ (.slice o l c) (.slice (o.map ρ.a) l (ρ.c c))
  | empty (a : Addr) (c : Nat) : VR ρ (.slice (some emp) 0 0) (.slice (some a) 0 c)
  | map (o : Option Nat) : (∀ t, o = some t → ρ.dom t) → VR ρ (.map o) (.map (o.map ρ.blk))
  | func (f : Fn) (xs ys : Array Value) (xs' ys' : Array Value) : xs.size = xs'.size → ys.size = ys'.size → (∀ (i : Nat) (u v : Value), xs[i]? = some u → xs'[i]? = some v → VR ρ u v) → (∀ (i : Nat) (u v : Value), ys[i]? = some u → ys'[i]? = some v → VR ρ u v) → VR ρ (.func f xs ys) (.func f xs' ys')
  | nilFunc : VR ρ .nilFunc .nilFunc
  | nilIface : VR ρ .nilIface .nilIface
  | agg (xs ys : Array Value) : xs.size = ys.size → (∀ (i : Nat) (u v : Value), xs[i]? = some u → ys[i]? = some v → VR ρ u v) → VR ρ (.agg xs) (.agg ys)
  | tuple (xs ys : Array Value) : xs.size = ys.size → (∀ (i : Nat) (u v : Value), xs[i]? = some u → ys[i]? = some v → VR ρ u v) → VR ρ (.tuple xs) (.tuple ys)
structure LR (ρ : Rn) (xs ys : List Value) : Prop where
  len : xs.length = ys.length
  at_ : ∀ (i : Nat) (u v : Value), xs[i]? = some u → ys[i]? = some v → VR ρ u v
section
variable {ρ : Rn}
theorem LR.nil : LR ρ [] [] := ⟨rfl, fun i u v h => by simp at h⟩
theorem LR.cons {x y : Value} {xs ys : List Value} (h : VR ρ x y) (k : LR ρ xs ys) : LR ρ (x :: xs) (y :: ys) := ⟨by simp [k.len], fun i u v h1 h2 => by
  cases i with
  | zero => simp at h1 h2; subst h1; subst h2; exact h
  | succ i => exact k.at_ i u v (by simpa using h1) (by simpa using h2)⟩
theorem LR.get {xs ys : List Value} (h : LR ρ xs ys) {i : Nat} {u : Value} (hu : xs[i]? = some u) : ∃ v, ys[i]? = some v ∧ VR ρ u v := by
  have hi := (List.getElem?_eq_some_iff.1 hu).1
  have e : ys[i]? = some (ys[i]'(by rw [← h.len]; exact hi)) := List.getElem?_eq_getElem _
  exact ⟨_, e, h.at_ i u _ hu e⟩
theorem LR.inv_cons {x : Value} {xs ys : List Value} (h : LR ρ (x :: xs) ys) : ∃ y ys', ys = y :: ys' ∧ VR ρ x y ∧ LR ρ xs ys' := by
  cases ys with
  | nil => have := h.len; simp at this
  | cons y ys => exact ⟨y, ys, rfl, h.at_ 0 x y rfl rfl, ⟨by have := h.len; simpa using this, fun i u v h1 h2 => h.at_ (i + 1) u v (by simpa using h1) (by simpa using h2)⟩⟩
theorem LR.inv_nil {ys : List Value} (h : LR ρ [] ys) : ys = [] := by have := h.len; cases ys <;> simp_all
theorem VR.aggL {xs ys : List Value} (h : LR ρ xs ys) : VR ρ (.agg xs.toArray) (.agg ys.toArray) := .agg _ _ (by simp [h.len]) fun i u v h1 h2 => h.at_ i u v (by simpa using h1) (by simpa using h2)
theorem VR.agg_inv {xs : Array Value} {v : Value} (h : VR ρ (.agg xs) v) : ∃ ys, v = .agg ys ∧ LR ρ xs.toList ys.toList := by
  cases h with
  | agg _ ys h1 h2 => exact ⟨ys, rfl, by simpa using h1, fun i u v a b => h2 i u v (by simpa using a) (by simpa using b)⟩
theorem VR.tuple_inv {xs : Array Value} {v : Value} (h : VR ρ (.tuple xs) v) : ∃ ys, v = .tuple ys ∧ LR ρ xs.toList ys.toList := by
  cases h with
  | tuple _ ys h1 h2 => exact ⟨ys, rfl, by simpa using h1, fun i u v a b => h2 i u v (by simpa using a) (by simpa using b)⟩
theorem VR.tupleL {xs ys : List Value} (h : LR ρ xs ys) : VR ρ (.tuple xs.toArray) (.tuple ys.toArray) := .tuple _ _ (by simp [h.len]) fun i u v h1 h2 => h.at_ i u v (by simpa using h1) (by simpa using h2)
def ER (ρ : Rn) (e e' : Env) : Prop := ∀ t u, get e t = some u → ∃ v, get e' t = some v ∧ VR ρ u v
def plainV : Value → Bool
  | .bool _ | .int .. | .string _ | .nilFunc | .nilIface | .pointer none | .map none => true
  | .slice none l c => Nat.blt c symB && Nat.ble l c
  | .func _ a b => a.isEmpty && b.isEmpty
  | _ => false
theorem VR.plain {u : Value} (h : plainV u = true) : VR ρ u u := by
  cases u <;> simp only [plainV] at h <;> try (cases h; done)
  · exact .bool _
  · exact .int _ _
  · exact .string _
  · rename_i a; cases a <;> first | (cases h; done) | exact .pointer none ρ.oD_none
  · rename_i a l c
    cases a <;> first | (cases h; done) | skip
    have h : (Nat.blt c symB && Nat.ble l c) = true := h
    simp only [Bool.and_eq_true] at h
    have e : ρ.c c = c := ρ.c_lit h.1
    have := VR.slice (ρ := ρ) none l c (by rw [e]; exact Nat.le_of_ble_eq_true h.2) ρ.oD_none (.inl h.1)
    rw [e] at this; exact this
  · rename_i a; cases a <;> first | (cases h; done) | exact .map none (fun t h => by cases h)
  · rename_i f a b
    simp only [Bool.and_eq_true, Array.isEmpty_iff] at h
    obtain ⟨rfl, rfl⟩ := h
    exact .func _ _ _ _ _ rfl rfl (fun i u v h => by simp at h) (fun i u v h => by simp at h)
  · exact .nilFunc
  · exact .nilIface
def evE (e : Env) : Operand → Option Value
  | .tmp t => get e t
  | .const v => match plainV v with | true => some v | false => none
  | .func f => some (.func (.func f) #[] #[])
  | .global _ => none
theorem evE_ok {e e' : Env} (h : ER ρ e e') {x : Operand} {u : Value} (hx : evE e x = some u) : ∃ v, ev e' x = some v ∧ VR ρ u v := by
  cases x with
  | tmp t => exact h t u hx
  | const c =>
    simp only [evE] at hx
    split at hx
    · cases hx; exact ⟨_, rfl, .plain ‹_›⟩
    · cases hx
  | func f => cases hx; exact ⟨_, rfl, .plain rfl⟩
  | global g => cases hx
theorem evE_ofV {e e' : Env} (h : ER ρ e e') {x : Operand} {u : Value} (hx : evE e x = some u) {F : Value → Prop} (k : ∀ v, VR ρ u v → F v) : ofV (ev e' x) F := by
  obtain ⟨v, e1, r⟩ := evE_ok h hx; rw [e1]; exact k v r
def isCell : Cell → Value → Bool
  | .int k, .int j _ => decide (k = j)
  | .bool, .bool _ => true
  | .str, .string _ => true
  | .slice, .slice .. => true
  | .ptr, .pointer _ => true
  | .map, .map _ => true
  | .fn, .func (.func _) a b => a.isEmpty && b.isEmpty
  | .clo, .func (.func _) a _ => a.isEmpty
  | .any, _ => true
  | _, _ => false
theorem isCell_ex {c : Cell} {u v : Value} (h : isCell c u = true) (r : VR ρ u v) {F : Value → Prop} (k : F v) : ExC c F := by
  cases r <;> cases c <;> simp only [isCell] at h <;> first | (cases h; done) | exact ⟨_, k⟩ | exact ⟨_, _, _, k⟩ | skip
  · have := of_decide_eq_true h; subst this; exact ⟨_, k⟩
  · rename_i f xs ys xs' ys' h1 h2 h3 h4
    cases f <;> first | (cases h; done) | skip
    simp only [Bool.and_eq_true, Array.isEmpty_iff] at h
    obtain ⟨rfl, rfl⟩ := h
    have e1 : xs' = #[] := by apply Array.eq_empty_of_size_eq_zero; simpa using h1.symm
    have e2 : ys' = #[] := by apply Array.eq_empty_of_size_eq_zero; simpa using h2.symm
    subst e1; subst e2
    exact ⟨_, k⟩
  · rename_i f xs ys xs' ys' h1 h2 h3 h4
    cases f <;> first | (cases h; done) | skip
    simp only [Array.isEmpty_iff] at h
    subst h
    have e1 : xs' = #[] := by apply Array.eq_empty_of_size_eq_zero; simpa using h1.symm
    subst e1
    exact ⟨_, _, k⟩
/-! ### Operators -/
def intE (op : BinOp) (k : IntKind) (x y : Int) : Option Value :=
  match op with
  | .add => some (.int k (k.wrap (x + y)))
  | .sub => some (.int k (k.wrap (x - y)))
  | .mul => some (.int k (k.wrap (x * y)))
  | .quo => if y = 0 then none else some (.int k (k.wrap (x.tdiv y)))
  | .rem => if y = 0 then none else some (.int k (x.tmod y))
  | .and => some (.int k (k.wrap ((BitVec.ofInt k.bits x) &&& (BitVec.ofInt k.bits y)).toNat))
  | .or => some (.int k (k.wrap ((BitVec.ofInt k.bits x) ||| (BitVec.ofInt k.bits y)).toNat))
  | .xor => some (.int k (k.wrap ((BitVec.ofInt k.bits x) ^^^ (BitVec.ofInt k.bits y)).toNat))
  | .andNot => some (.int k (k.wrap ((BitVec.ofInt k.bits x) &&& ~~~(BitVec.ofInt k.bits y)).toNat))
  | .shl => if 0 ≤ y then some (.int k (k.wrap (x * 2 ^ (min y.toNat k.bits)))) else none
  | .shr => if 0 ≤ y then some (.int k (x.fdiv (2 ^ (min y.toNat k.bits)))) else none
  | .eql => some (.bool (x == y))
  | .neq => some (.bool (x != y))
  | .lss => some (.bool (x < y))
  | .leq => some (.bool (x ≤ y))
  | .gtr => some (.bool (x > y))
  | .geq => some (.bool (x ≥ y))
theorem intE_ok {op : BinOp} {k : IntKind} {x y : Int} {u : Value} (h : intE op k x y = some u) {F : Value → Prop} (f : F u) : binInt op k x y F := by
  cases op <;> simp only [intE] at h <;> simp only [binInt] <;> first | (cases h; exact f) | (split at h <;> first | (cases h; done) | (cases h; exact ⟨‹_›, f⟩))
theorem intE_plain {op : BinOp} {k : IntKind} {x y : Int} {u : Value} (h : intE op k x y = some u) : VR ρ u u := by
  cases op <;> simp only [intE] at h <;> first | (cases h; first | exact .int _ _ | exact .bool _) | (split at h <;> first | (cases h; done) | (cases h; exact .int _ _))
def bytesEq : List UInt8 → List UInt8 → Bool
  | [], [] => true
  | x :: xs, y :: ys => Nat.beq x.toNat y.toNat && bytesEq xs ys
  | _, _ => false
theorem bytesEq_iff : ∀ {xs ys : List UInt8}, bytesEq xs ys = true ↔ xs = ys
  | [], [] => by simp [bytesEq]
  | [], _ :: _ => by simp [bytesEq]
  | _ :: _, [] => by simp [bytesEq]
  | x :: xs, y :: ys => by
    simp only [bytesEq, Bool.and_eq_true, bytesEq_iff, List.cons.injEq]
    refine and_congr ⟨fun h => ?_, fun h => by rw [h]; exact Nat.beq_refl _⟩ Iff.rfl
    exact UInt8.toNat_inj.1 (Nat.eq_of_beq_eq_true h)
theorem toList_beq (x y : ByteArray) : (x.toList == y.toList) = bytesEq x.data.toList y.data.toList := by
  rw [Bool.eq_iff_iff, bytesEq_iff, beq_iff_eq, ByteArray.toList_eq, ByteArray.toList_eq]
def strE (op : BinOp) (x y : ByteArray) : Option Value :=
  match op with
  | .add => if ((x.size + y.size : Nat) : Int) ≤ IntKind.i64.max then some (.string (x ++ y)) else none
  | .eql => some (.bool (bytesEq x.data.toList y.data.toList))
  | .neq => some (.bool (!(bytesEq x.data.toList y.data.toList)))
  | .lss => some (.bool (Op.bytesLess x.data.toList y.data.toList))
  | .leq => some (.bool (Op.bytesLess x.data.toList y.data.toList || bytesEq x.data.toList y.data.toList))
  | .gtr => some (.bool (!(Op.bytesLess x.data.toList y.data.toList || bytesEq x.data.toList y.data.toList)))
  | .geq => some (.bool (!Op.bytesLess x.data.toList y.data.toList))
  | _ => none
theorem strE_ok {op : BinOp} {x y : ByteArray} {u : Value} (h : strE op x y = some u) {F : Value → Prop} (f : F u) : binStr op x y F := by
  have e1 := toList_beq x y
  have e2 : x.toList = x.data.toList := ByteArray.toList_eq x
  have e3 : y.toList = y.data.toList := ByteArray.toList_eq y
  cases op <;> simp only [strE] at h <;> simp only [binStr] <;> first | (cases h; done) | (cases h; rw [e1]; exact f) | (cases h; rw [e1, e2, e3]; exact f) | (cases h; rw [e2, e3]; exact f) | (split at h <;> first | (cases h; done) | (cases h; exact ⟨‹_›, f⟩))
theorem strE_plain {op : BinOp} {x y : ByteArray} {u : Value} (h : strE op x y = some u) : VR ρ u u := by
  cases op <;> simp only [strE] at h <;> first | (cases h; done) | (cases h; exact .bool _) | (split at h <;> first | (cases h; done) | (cases h; exact .string _))
theorem isC_plain {c : Cell} {u v : Value} (h : isC c u = true) (r : VR ρ u v) : v = u := by
  cases r <;> cases c <;> simp only [isC] at h <;> first | (cases h; done) | rfl
theorem areC_plain {cs : List Cell} : ∀ {xs ys : List Value}, areC cs xs = true → LR ρ xs ys → ys = xs := by
  induction cs with
  | nil => intro xs ys h r; cases xs with
    | nil => exact r.inv_nil
    | cons => cases h
  | cons c cs ih =>
    intro xs ys h r
    cases xs with
    | nil => cases h
    | cons x xs =>
      obtain ⟨y, ys', rfl, r1, r2⟩ := r.inv_cons
      simp only [areC, Bool.and_eq_true] at h
      rw [isC_plain h.1 r1, ih h.2 r2]
def eqE (T : Tab) (neg : Bool) (t : Nat) (a b : Value) : Option Value :=
  match T.t t with
  | none => none
  | some i =>
    match i.sh, a, b with
    | .one .bool, .bool x, .bool y => some (.bool (bif neg then !(x == y) else x == y))
    | .one .ptr, .pointer o, .pointer none => some (.bool (bif neg then !o.isNone else o.isNone))
    | .one .slice, .slice o _ _, .slice none _ _ => some (.bool (bif neg then !o.isNone else o.isNone))
    | .one .map, .map o, .map none => some (.bool (bif neg then !o.isNone else o.isNone))
    | .agg _, .agg xs, .agg ys =>
      match i.eq with
      | some cs => match areC cs xs.toList && areC cs ys.toList with | true => some (.bool (bif neg then !eqL xs.toList ys.toList else eqL xs.toList ys.toList)) | false => none
      | none => none
    | _, _, _ => none
theorem isNone_map {α β : Type} (o : Option α) (f : α → β) : (o.map f).isNone = o.isNone := by cases o <;> rfl
theorem eqE_ok {T : Tab} {neg : Bool} {t : Nat} {a b a' b' u : Value} (h : eqE T neg t a b = some u) (ra : VR ρ a a') (rb : VR ρ b b') {F : Value → Prop} (f : F u) : eqK T neg t a' b' F := by
  unfold eqE at h
  split at h
  · cases h
  rename_i i hi
  unfold eqK
  rw [hi]
  simp only
  split at h
  · rename_i hs; cases ra; cases rb; rw [hs]; cases h; exact f
  · rename_i hs; cases ra; cases rb; rw [hs]; cases h; simp only [Option.map_none, isNone_map]; exact f
  · rename_i hs
    cases rb
    cases ra
    · rw [hs]; cases h; simp only [Option.map_none, isNone_map]; exact f
    · rw [hs]; cases h; exact f
  · rename_i hs; cases ra; cases rb; rw [hs]; cases h; simp only [Option.map_none, isNone_map]; exact f
  · rename_i cs0 xs ys hs
    obtain ⟨xs', rfl, rx⟩ := ra.agg_inv
    obtain ⟨ys', rfl, ry⟩ := rb.agg_inv
    rw [hs]; simp only
    split at h
    · rename_i cs he
      rw [he]; simp only
      split at h
      · rename_i hc
        simp only [Bool.and_eq_true] at hc
        have e1 := areC_plain hc.1 rx
        have e2 := areC_plain hc.2 ry
        rw [e1, e2, hc.1, hc.2]
        cases h; exact f
      · cases h
    · cases h
  · cases h
theorem eqE_plain {T : Tab} {neg : Bool} {t : Nat} {a b u : Value} (h : eqE T neg t a b = some u) : VR ρ u u := by
  unfold eqE at h
  split at h
  · cases h
  split at h
  · cases h; exact .bool _
  · cases h; exact .bool _
  · cases h; exact .bool _
  · cases h; exact .bool _
  · split at h
    · split at h
      · cases h; exact .bool _
      · cases h
    · cases h
  · cases h
def kOk (op : BinOp) (k k' : IntKind) : Bool := match op with | .shl | .shr => true | _ => decide (k = k')
def binE (T : Tab) (op : BinOp) (t : Nat) (a b : Value) : Option Value :=
  match a, b with
  | .int k x, .int k' y => match kOk op k k' with | true => intE op k x y | false => none
  | .string x, .string y => strE op x y
  | .bool x, .bool y => match op with | .eql => eqE T false t (.bool x) (.bool y) | .neq => eqE T true t (.bool x) (.bool y) | _ => none
  | .pointer x, .pointer y => match op with | .eql => eqE T false t (.pointer x) (.pointer y) | .neq => eqE T true t (.pointer x) (.pointer y) | _ => none
  | .slice x l c, .slice y l2 c2 => match op with | .eql => eqE T false t (.slice x l c) (.slice y l2 c2) | .neq => eqE T true t (.slice x l c) (.slice y l2 c2) | _ => none
  | .map x, .map y => match op with | .eql => eqE T false t (.map x) (.map y) | .neq => eqE T true t (.map x) (.map y) | _ => none
  | .agg x, .agg y => match op with | .eql => eqE T false t (.agg x) (.agg y) | .neq => eqE T true t (.agg x) (.agg y) | _ => none
  | _, _ => none
theorem binE_ok {T : Tab} {op : BinOp} {t : Nat} {a b a' b' u : Value} (h : binE T op t a b = some u) (ra : VR ρ a a') (rb : VR ρ b b') {F : Value → Prop} (f : F u) : binK T op t a' b' F := by
  unfold binE at h
  split at h
  · cases ra; cases rb
    unfold binK
    split at h
    · rename_i hk
      cases op <;> simp only [kOk] at hk <;> first | exact intE_ok h f | (simp only [hk]; exact intE_ok h f)
    · cases h
  · cases ra; cases rb; exact strE_ok h f
  · split at h <;> first | (cases h; done) | (have k := eqE_ok h ra rb f; cases ra <;> cases rb <;> exact k)
  · split at h <;> first | (cases h; done) | (have k := eqE_ok h ra rb f; cases ra <;> cases rb <;> exact k)
  · split at h <;> first | (cases h; done) | (have k := eqE_ok h ra rb f; cases ra <;> cases rb <;> exact k)
  · split at h <;> first | (cases h; done) | (have k := eqE_ok h ra rb f; cases ra <;> cases rb <;> exact k)
  · split at h <;> first | (cases h; done) | (have k := eqE_ok h ra rb f; obtain ⟨xs', rfl, _⟩ := ra.agg_inv; obtain ⟨ys', rfl, _⟩ := rb.agg_inv; exact k)
  · cases h
theorem binE_plain {T : Tab} {op : BinOp} {t : Nat} {a b u : Value} (h : binE T op t a b = some u) : VR ρ u u := by
  unfold binE at h
  split at h
  · split at h
    · exact intE_plain h
    · cases h
  · exact strE_plain h
  all_goals first | (cases h; done) | (split at h <;> first | (cases h; done) | exact eqE_plain h)
def unE (op : UnOp) (v : Value) : Option Value :=
  match op, v with
  | .neg, .int k n => some (.int k (k.wrap (0 - n)))
  | .not, .bool b => some (.bool !b)
  | .xor, .int k n => some (.int k (k.wrap ((BitVec.ofInt k.bits (if k.signed then -1 else k.max)) ^^^ (BitVec.ofInt k.bits n)).toNat))
  | _, _ => none
theorem unE_ok {op : UnOp} {a a' u : Value} (h : unE op a = some u) (r : VR ρ a a') {F : Value → Prop} (f : ∀ v, VR ρ u v → F v) : unK op a' F := by
  unfold unE at h
  split at h <;> first | (cases h; done) | (cases r; cases h; first | exact f _ (.int _ _) | exact f _ (.bool _))
def convE (T : Tab) (src dst : Nat) (v : Value) : Option Value :=
  match T.t src, T.t dst with
  | some i, some j => match i.sh, j.sh, v with
    | .one (.int _), .one (.int k), .int _ n => some (.int k (k.wrap n))
    | .one .str, .one .str, .string s => some (.string s)
    | _, _, _ => none
  | _, _ => none
theorem convE_ok {T : Tab} {s d : Nat} {a a' u : Value} (h : convE T s d a = some u) (r : VR ρ a a') {F : Value → Prop} (f : ∀ v, VR ρ u v → F v) : convK T s d a' F := by
  unfold convE at h
  split at h
  · rename_i i j hi hj
    unfold convK
    rw [hi, hj]; simp only
    split at h
    · rename_i h1 h2; cases r; rw [h1, h2]; cases h; exact f _ (.int _ _)
    · rename_i h1 h2; cases r; rw [h1, h2]; cases h; exact f _ (.string _)
    · cases h
  · cases h
def minE (v u : Value) : Option Value := match v, u with | .int k x, .int _ y => some (.int k (if y < x then y else x)) | _, _ => none
def maxE (v u : Value) : Option Value := match v, u with | .int k x, .int _ y => some (.int k (if y > x then y else x)) | _, _ => none
theorem minE_ok {a b a' b' u : Value} (h : minE a b = some u) (ra : VR ρ a a') (rb : VR ρ b b') {F : Value → Prop} (f : ∀ v, VR ρ u v → F v) : minK a' b' F := by
  unfold minE at h
  split at h
  · cases ra; cases rb; cases h; exact f _ (.int _ _)
  · cases h
theorem maxE_ok {a b a' b' u : Value} (h : maxE a b = some u) (ra : VR ρ a a') (rb : VR ρ b b') {F : Value → Prop} (f : ∀ v, VR ρ u v → F v) : maxK a' b' F := by
  unfold maxE at h
  split at h
  · cases ra; cases rb; cases h; exact f _ (.int _ _)
  · cases h
/-! ### Places and parts -/
def fldE (T : Tab) (s f : Nat) (x : Value) : Option Value :=
  match T.t s with
  | some inf => match inf.places[f]? with
    | some (o, _, _) => match x with | .pointer (some p) => some (.pointer (some (p.add o))) | _ => none
    | none => none
  | none => none
theorem fldE_ok {T : Tab} {s f : Nat} {x x' u : Value} (h : fldE T s f x = some u) (r : VR ρ x x') {F : Value → Prop} (k : ∀ v, VR ρ u v → F v) : fldK T s f x' F := by
  unfold fldE at h
  split at h
  · rename_i inf hi
    split at h
    · rename_i o n b hp
      split at h
      · rename_i p
        cases r with
        | pointer _ hd =>
        unfold fldK
        rw [hi]; simp only; rw [hp]; simp only
        cases h
        show F (.pointer (some ((ρ.a p).add o)))
        rw [Rn.a_add]
        exact k _ (.pointer (some _) (Rn.oD_add hd _))
      · cases h
    · cases h
  · cases h
def idxE (T : Tab) (t : Nat) (x i : Value) : Option Value :=
  match T.t t, i with
  | some inf, .int _ n => match inf.idx, x with
    | some (none, sz), .slice (some p) len _ => if 0 ≤ n ∧ n < (len : Int) then some (.pointer (some (p.add (n.toNat * sz)))) else none
    | some (some len, sz), .pointer (some p) => if 0 ≤ n ∧ n < (len : Int) then some (.pointer (some (p.add (n.toNat * sz)))) else none
    | _, _ => none
  | _, _ => none
theorem idxE_ok {T : Tab} {t : Nat} {x i x' i' u : Value} (h : idxE T t x i = some u) (rx : VR ρ x x') (ri : VR ρ i i') {F : Value → Prop} (k : ∀ v, VR ρ u v → F v) : idxK T t x' i' F := by
  unfold idxE at h
  split at h
  · rename_i inf kk n hi
    cases ri
    unfold idxK
    rw [hi]; simp only
    split at h
    · rename_i sz p len c hx
      cases rx with
      | slice _ _ _ _ hd _ =>
        rw [hx]; simp only
        split at h
        · rename_i hc
          cases h
          refine ⟨hc, ?_⟩
          show F (.pointer (some ((ρ.a p).add _)))
          rw [Rn.a_add]; exact k _ (.pointer (some _) (Rn.oD_add hd _))
        · cases h
      | empty a c =>
        split at h
        · rename_i hc; exact absurd hc.2 (by omega)
        · cases h
    · rename_i len sz p hx
      cases rx with
      | pointer _ hd =>
      rw [hx]; simp only
      split at h
      · rename_i hc
        cases h
        refine ⟨hc, ?_⟩
        show F (.pointer (some ((ρ.a p).add _)))
        rw [Rn.a_add]; exact k _ (.pointer (some _) (Rn.oD_add hd _))
      · cases h
    · cases h
  · cases h
end
end Go.V

namespace Go.V
open Go.RowKit (Below)
inductive AObj where
  /-- a prefix of a block's cells, its type; perhaps the symbol of the capacity that the block has from the token on, and an element's cells -/
  | cells (cs : List Value) (t : Nat) (g : Option (Nat × Nat))
  /-- entries, their stamps, the next stamp -/
  | amap (es : List (Value × Value)) (bs : List Nat) (clock : Nat)
  /-- an iterator over a map -/
  | iter (m : Option Nat) (since : Nat) (seen : List Nat) (last : Nat)
  | dead
def AObj.live : AObj → Bool
  | .dead => false
  | _ => true
structure AMem where
  objs : List (Nat × AObj)
  next : Nat
  caps : Nat
  /-- the tokens that have been changed -/
  log : List Nat
def AMem.get (m : AMem) (t : Nat) : Option AObj := look m.objs t
def cellE (m : AMem) (p : Addr) : Option Value :=
  match p.spot with
  | some _ => none
  | none => match m.get p.block with
    | some (.cells cs _ _) => cs[p.off]?
    | _ => none
def MemC (ρ : Rn) (m : AMem) (w : World) : Prop := ∀ t cs ty g, m.get t = some (.cells cs ty g) → ∀ (i : Nat) (u : Value), cs[i]? = some u → ∃ v, w.cell? ⟨ρ.blk t, ρ.off t + i, none⟩ = some v ∧ VR ρ u v
section
variable {ρ : Rn} {m : AMem} {w : World}
theorem cellE_ok (h : MemC ρ m w) {p : Addr} {u : Value} (hu : cellE m p = some u) : ∃ v, w.cell? (ρ.a p) = some v ∧ VR ρ u v := by
  obtain ⟨b, o, s⟩ := p
  unfold cellE at hu
  split at hu
  · cases hu
  · rename_i hs
    have hs : s = none := hs
    subst hs
    split at hu
    · rename_i cs ty g hg; exact h b cs ty g hg o u hu
    · cases hu
def ldCsE : List Cell → AMem → Addr → Nat → Option (List Value)
  | [], _, _, _ => some []
  | c :: cs, m, p, i => match cellE m (p.add i), ldCsE cs m p (i + 1) with
    | some u, some vs => match isCell c u with | true => some (u :: vs) | false => none
    | _, _ => none
theorem ldCsE_ok (h : MemC ρ m w) {cs : List Cell} {p : Addr} : ∀ {i : Nat} {us : List Value}, ldCsE cs m p i = some us → ∀ {F : List Value → Prop}, (∀ vs, LR ρ us vs → F vs) → LdCs cs w (ρ.a p) i F := by
  induction cs with
  | nil => intro i us hu F k; cases hu; exact k [] .nil
  | cons c cs ih =>
    intro i us hu F k
    unfold ldCsE at hu
    split at hu
    · rename_i u vs h1 h2
      split at hu
      · rename_i hc
        cases hu
        obtain ⟨v, hv, r⟩ := cellE_ok h h1
        exact isCell_ex hc r ⟨by rw [Rn.a_add]; exact hv, ih h2 fun vs' r' => k _ (LR.cons r r')⟩
      · cases hu
    · cases hu
def rowE (m : AMem) (p : Addr) (i : Nat) : Nat → Option (List Value)
  | 0 => some []
  | n + 1 => match cellE m (p.add i), rowE m p (i + 1) n with
    | some u, some vs => some (u :: vs)
    | _, _ => none
theorem rowE_ok (h : MemC ρ m w) {p : Addr} : ∀ {n i : Nat} {us : List Value}, rowE m p i n = some us → ∃ vs, LR ρ us vs ∧ vs.length = n ∧ ∀ j, j < n → w.cell? ((ρ.a p).add (i + j)) = vs[j]? := by
  intro n
  induction n with
  | zero => intro i us hu; cases hu; exact ⟨[], .nil, rfl, fun j hj => by omega⟩
  | succ n ih =>
    intro i us hu
    unfold rowE at hu
    split at hu
    · rename_i u vs h1 h2
      cases hu
      obtain ⟨v, hv, r⟩ := cellE_ok h h1
      obtain ⟨vs', r', hl, hj⟩ := ih h2
      refine ⟨v :: vs', LR.cons r r', by simp [hl], fun j hjn => ?_⟩
      cases j with
      | zero => rw [Nat.add_zero, Rn.a_add]; exact hv
      | succ j =>
        have := hj j (by omega)
        rw [List.getElem?_cons_succ, ← this]
        congr 2; omega
    · cases hu
def ldE (s : Sh) (m : AMem) (p : Addr) : Option Value :=
  match s with
  | .one c => match cellE m p with | some u => (match isCell c u with | true => some u | false => none) | none => none
  | .agg cs => match ldCsE cs m p 0 with | some vs => some (.agg vs.toArray) | none => none
  | .row n => match rowE m p 0 n with | some vs => some (.agg vs.toArray) | none => none
theorem ldE_ok (h : MemC ρ m w) {s : Sh} {p : Addr} {u : Value} (hu : ldE s m p = some u) {F : Value → Prop} (k : ∀ v, VR ρ u v → F v) : ldSh s w (ρ.a p) F := by
  unfold ldE at hu
  split at hu
  · split at hu
    · rename_i u0 h1
      split at hu
      · rename_i hc
        cases hu
        obtain ⟨v, hv, r⟩ := cellE_ok h h1
        exact isCell_ex hc r ⟨hv, k v r⟩
      · cases hu
    · cases hu
  · split at hu
    · rename_i vs h1; cases hu; exact ldCsE_ok h h1 fun vs' r => k _ (.aggL r)
    · cases hu
  · split at hu
    · rename_i n vs h1
      cases hu
      obtain ⟨vs', r, hl, hj⟩ := rowE_ok h h1
      exact ⟨vs'.toArray, ⟨by simpa using hl, fun i hi => by have := hj i hi; rw [Nat.zero_add] at this; simpa using this⟩, k _ (.aggL r)⟩
    · cases hu
/-! ### Parts -/
def fieldE (T : Tab) (s f : Nat) (x : Value) : Option Value :=
  match T.t s with
  | some inf => match inf.places[f]? with
    | some (o, n, true) => match x with | .agg cs => some (.agg (cs.extract o (o + n))) | _ => none
    | some (o, _, false) => match x with | .agg cs => cs[o]? | _ => none
    | none => none
  | none => none
theorem LR.cut {xs ys : List Value} (h : LR ρ xs ys) (o n : Nat) : LR ρ ((xs.drop o).take n) ((ys.drop o).take n) := ⟨by simp [h.len], fun i u v h1 h2 => by
  rw [List.getElem?_take] at h1 h2
  split at h1
  · rename_i hi; rw [if_pos hi, List.getElem?_drop] at h2; rw [List.getElem?_drop] at h1; exact h.at_ _ u v h1 h2
  · cases h1⟩
theorem fieldE_ok {T : Tab} {s f : Nat} {x x' u : Value} (h : fieldE T s f x = some u) (r : VR ρ x x') {F : Value → Prop} (k : ∀ v, VR ρ u v → F v) : fieldK T s f x' F := by
  unfold fieldE at h
  split at h
  · rename_i inf hi
    split at h
    · rename_i o n hp
      split at h
      · rename_i cs
        obtain ⟨ys, rfl, ra⟩ := r.agg_inv
        unfold fieldK
        rw [hi]; simp only; rw [hp]; simp only
        cases h
        show F (.agg (ys.extract o (o + n)))
        refine k _ (.agg _ _ ?_ fun i u v h1 h2 => ?_)
        · have := ra.len; simp at this ⊢; omega
        · rw [Array.getElem?_extract] at h1 h2
          split at h1
          · rename_i hc
            split at h2
            · exact ra.at_ (o + i) u v (by simpa using h1) (by simpa using h2)
            · cases h2
          · cases h1
      · cases h
    · rename_i o n hp
      split at h
      · rename_i cs
        obtain ⟨ys, rfl, ra⟩ := r.agg_inv
        unfold fieldK
        rw [hi]; simp only; rw [hp]; simp only
        obtain ⟨v, hv, rv⟩ := ra.get (i := o) (u := u) (by simpa using h)
        show ofV ys[o]? F
        have : ys[o]? = some v := by simpa using hv
        rw [this]; exact k v rv
      · cases h
    · cases h
  · cases h
def strIdxE (T : Tab) (t : Nat) (x i : Value) : Option Value :=
  match T.t t with
  | some inf => match inf.sh, x, i with
    | .one .str, .string s, .int _ n => if 0 ≤ n then (match s[n.toNat]? with | some b => some (.int .u8 b.toNat) | none => none) else none
    | _, _, _ => none
  | none => none
theorem strIdxE_ok {T : Tab} {t : Nat} {x i x' i' u : Value} (h : strIdxE T t x i = some u) (rx : VR ρ x x') (ri : VR ρ i i') {F : Value → Prop} (k : ∀ v, VR ρ u v → F v) : strIdxK T t x' i' F := by
  unfold strIdxE at h
  split at h
  · rename_i inf hi
    split at h
    · rename_i s kk n hs
      cases rx; cases ri
      unfold strIdxK
      rw [hi]; simp only; rw [hs]; simp only
      split at h
      · rename_i h0
        split at h
        · rename_i b hb; cases h; exact ⟨b, ⟨h0, hb⟩, k _ (.int _ _)⟩
        · cases h
      · cases h
    · cases h
  · cases h
def bndE (o : Option Value) (d : Nat) : Option Nat :=
  match o with
  | none => some d
  | some (.int _ n) => if 0 ≤ n then some n.toNat else none
  | some _ => none
def OR (ρ : Rn) : Option Value → Option Value → Prop
  | none, none => True
  | some u, some v => VR ρ u v
  | _, _ => False
theorem bndE_ok {o o' : Option Value} {d l : Nat} (h : bndE o d = some l) (r : OR ρ o o') {F : Nat → Prop} (k : F l) : bndK o' d F := by
  unfold bndE at h
  split at h
  · cases o' with
    | none => cases h; exact k
    | some v => exact r.elim
  · rename_i kk n
    cases o' with
    | none => exact r.elim
    | some v =>
      cases r
      split at h
      · cases h; exact ⟨‹_›, k⟩
      · cases h
  · cases h
def lenE (T : Tab) (t : Nat) (v : Value) : Option Value :=
  match T.t t with
  | some i => match i.sh, v with
    | .one .str, .string s => some (.int .i64 (s.size : Nat))
    | .one .slice, .slice _ n _ => some (.int .i64 (n : Nat))
    | _, _ => none
  | none => none
theorem lenE_ok {T : Tab} {t : Nat} {x x' u : Value} (h : lenE T t x = some u) (r : VR ρ x x') {F : Value → Prop} (k : ∀ v, VR ρ u v → F v) : lenK T t x' F := by
  unfold lenE at h
  split at h
  · rename_i inf hi
    unfold lenK
    rw [hi]; simp only
    split at h
    · rename_i hs; cases r; rw [hs]; cases h; exact k _ (.int _ _)
    · rename_i hs
      cases r
      · rw [hs]; cases h; exact k _ (.int _ _)
      · rw [hs]; cases h; exact k _ (.int _ _)
    · cases h
  · cases h
def capE (T : Tab) (t : Nat) (v : Value) : Option Value :=
  match T.t t with
  | some i => match i.sh, v with
    | .one .slice, .slice none _ c => match Nat.blt c symB with | true => some (.int .i64 (c : Nat)) | false => none
    | .one .slice, .slice (some ⟨_, _, none⟩) _ c => match Nat.blt c symB with | true => some (.int .i64 (c : Nat)) | false => none
    | _, _ => none
  | none => none
theorem capE_ok {T : Tab} {t : Nat} {x x' u : Value} (h : capE T t x = some u) (r : VR ρ x x') {F : Value → Prop} (k : ∀ v, VR ρ u v → F v) : capK T t x' F := by
  unfold capE at h
  split at h
  · rename_i inf hi
    unfold capK
    rw [hi]; simp only
    split at h
    · rename_i hs
      cases r
      split at h
      · rename_i hc; rw [hs]; cases h; simp only [ρ.c_lit hc]; exact k _ (.int _ _)
      · cases h
    · rename_i hs
      cases r
      split at h
      · rename_i hc; rw [hs]; cases h; simp only [ρ.c_lit hc]; exact k _ (.int _ _)
      · cases h
    · cases h
  · cases h
end
end Go.V

namespace Go.V
open Go.RowKit (Below)
section
variable {ρ : Rn} {m : AMem} {w : World}
def cutE (o : Option Addr) (len c l h sz av : Nat) : Option Value :=
  match Nat.ble l h && ((Nat.ble h len || Nat.ble h av) || (Nat.blt c symB && Nat.ble h c)) with
  | false => none
  | true => match l with
    | 0 => some (.slice o h c)
    | l + 1 => match subC c (l + 1) with
      | none => none
      | some c' => match Nat.blt c symB with
        | true => some (.slice (if c = l + 1 then o else o.map (·.add ((l + 1) * sz))) (h - (l + 1)) c')
        | false => match Nat.blt (l + 1) len || Nat.blt (l + 1) av with
          | true => some (.slice (o.map (·.add ((l + 1) * sz))) (h - (l + 1)) c')
          | false => match o with | some _ => (match Nat.beq h (l + 1) with | true => some (.slice (some emp) 0 0) | false => none) | none => none
theorem map_add (ρ : Rn) (o : Option Addr) (n : Nat) : (o.map ρ.a).map (·.add n) = (o.map (·.add n)).map ρ.a := by
  cases o with
  | none => rfl
  | some p => simp [Rn.a_add]
theorem add0 (a : Addr) : a.add 0 = a := rfl
theorem cutE_ok {o : Option Addr} {len c l h sz av : Nat} {u : Value} (hu : cutE o len c l h sz av = some u) (hlc : len ≤ ρ.c c) (hav : av ≤ ρ.c c) (hod : ρ.oD o) (hcd : ρ.cD c) {F : Value → Prop} (k : ∀ v, VR ρ u v → F v) :
    (l ≤ h ∧ h ≤ ρ.c c) ∧ F (.slice (if ρ.c c = l then o.map ρ.a else (o.map ρ.a).map (·.add (l * sz))) (h - l) (ρ.c c - l)) := by
  unfold cutE at hu
  split at hu
  · cases hu
  rename_i hb
  simp only [Bool.and_eq_true, Bool.or_eq_true] at hb
  obtain ⟨h1, h2⟩ := hb
  have h1 := Nat.le_of_ble_eq_true h1
  have h2 : h ≤ ρ.c c := by
    rcases h2 with (h2 | h2) | ⟨h2, h3⟩
    · exact Nat.le_trans (Nat.le_of_ble_eq_true h2) hlc
    · exact Nat.le_trans (Nat.le_of_ble_eq_true h2) hav
    · rw [ρ.c_lit h2]; exact Nat.le_of_ble_eq_true h3
  refine ⟨⟨h1, h2⟩, ?_⟩
  cases l with
  | zero =>
    have hu : some (Value.slice o h c) = some u := hu
    cases hu
    have e : (if ρ.c c = 0 then o.map ρ.a else (o.map ρ.a).map (·.add (0 * sz))) = o.map ρ.a := by
      split
      · rfl
      · rw [Nat.zero_mul]; cases o <;> rfl
    rw [e, Nat.sub_zero, Nat.sub_zero]
    exact k _ (.slice o h c h2 hod hcd)
  | succ l =>
    simp only at hu
    split at hu
    · cases hu
    rename_i c' hc'
    have ec := subC_ok ρ hc'
    split at hu
    · rename_i hlit
      cases hu
      have hle : h - (l + 1) ≤ ρ.c c' := by rw [ec]; omega
      have v := VR.slice (ρ := ρ) (if c = l + 1 then o else o.map (·.add ((l + 1) * sz))) (h - (l + 1)) c' hle (by split; exact hod; exact Rn.oD_map hod _) (subC_cD hc' hcd)
      have r := k _ v
      rw [ec] at r
      rw [ρ.c_lit hlit] at r ⊢
      split
      · rename_i e; rw [if_pos e] at r; exact r
      · rename_i e; rw [if_neg e, ← map_add] at r; exact r
    · split at hu
      · rename_i hlt
        have hlt : l + 1 < ρ.c c := by
          rw [Bool.or_eq_true] at hlt
          rcases hlt with hlt | hlt
          · exact Nat.lt_of_lt_of_le (Nat.le_of_ble_eq_true hlt) hlc
          · exact Nat.lt_of_lt_of_le (Nat.le_of_ble_eq_true hlt) hav
        cases hu
        have hle : h - (l + 1) ≤ ρ.c c' := by rw [ec]; omega
        have r := k _ (VR.slice (ρ := ρ) (o.map (·.add ((l + 1) * sz))) (h - (l + 1)) c' hle (Rn.oD_map hod _) (subC_cD hc' hcd))
        rw [ec, ← map_add] at r
        rw [if_neg (by omega)]; exact r
      · split at hu
        · rename_i p
          split at hu
          · rename_i he
            have he := Nat.eq_of_beq_eq_true he
            cases hu
            have e : ∃ a, (if ρ.c c = l + 1 then (some p : Option Addr).map ρ.a else ((some p : Option Addr).map ρ.a).map (·.add ((l + 1) * sz))) = some a := by
              split <;> exact ⟨_, rfl⟩
            obtain ⟨a, e⟩ := e
            rw [e, he, Nat.sub_self]
            exact k _ (.empty a _)
          · cases hu
        · cases hu
def sliceE (T : Tab) (t : Nat) (x : Value) (lo hi : Option Value) (av : Nat) : Option Value :=
  match T.t t with
  | none => none
  | some inf => match x with
    | .string s => (match inf.sh with
      | .one .str => (match bndE lo 0, bndE hi s.size with
        | some l, some h => (match Nat.ble l h && Nat.ble h s.size with | true => some (.string (s.extract l h)) | false => none)
        | _, _ => none)
      | _ => none)
    | .slice o len c => (match o with
      | some ⟨_, _, some _⟩ => none
      | _ => (match inf.idx with
        | some (none, sz) => (match bndE lo 0, bndE hi len with
          | some l, some h => cutE o len c l h sz av
          | _, _ => none)
        | _ => none))
    | _ => none
theorem sliceE_ok {T : Tab} {t av : Nat} {x x' u : Value} {lo lo' hi hi' : Option Value} (h : sliceE T t x lo hi av = some u) (hav : ∀ o l c, x = .slice o l c → av ≤ ρ.c c) (rx : VR ρ x x') (r1 : OR ρ lo lo') (r2 : OR ρ hi hi') {F : Value → Prop} (k : ∀ v, VR ρ u v → F v) : sliceK T t x' lo' hi' F := by
  unfold sliceE at h
  split at h
  · cases h
  rename_i inf hi0
  unfold sliceK
  rw [hi0]; simp only
  split at h
  · cases rx
    split at h
    · rename_i hs
      split at h
      · rename_i l hh e1 e2
        split at h
        · rename_i hc
          simp only [Bool.and_eq_true] at hc
          cases h
          rw [hs]; simp only
          exact bndE_ok e1 r1 (bndE_ok e2 r2 ⟨⟨Nat.le_of_ble_eq_true hc.1, Nat.le_of_ble_eq_true hc.2⟩, k _ (.string _)⟩)
        · cases h
      · cases h
    · cases h
  · rename_i o len c
    split at h
    · cases h
    rename_i hno
    split at h
    · rename_i sz hidx
      split at h
      · rename_i l hh e1 e2
        cases rx with
        | empty a c => exact absurd rfl (hno _ _ _)
        | slice _ _ _ hlc hod hcd =>
          have fin := cutE_ok (ρ := ρ) h hlc (hav _ _ _ rfl) hod hcd k
          rw [hidx]
          split
          · rename_i hq; cases hq
          · rename_i hq1 hq2
            cases hq1; cases hq2
            exact bndE_ok e1 r1 (bndE_ok e2 r2 fin)
          · rename_i hq
            exact absurd rfl (hq _ _ _ _ rfl)
      · cases h
    · cases h
  · cases h
end
end Go.V

namespace Go.V
open Go.RowKit (Below)
section
variable {ρ : Rn} {m : AMem} {w : World}
theorem cellsR {u v : Value} (r : VR ρ u v) : LR ρ u.cells.toList v.cells.toList := by
  have one : ∀ {u v : Value}, VR ρ u v → LR ρ [u] [v] := fun r => LR.cons r LR.nil
  have r0 := r
  cases r with
  | agg xs ys h1 h2 => obtain ⟨ys', e, ra⟩ := r0.agg_inv; cases e; exact ra
  | bool => exact one r0
  | int => exact one r0
  | string => exact one r0
  | pointer => exact one r0
  | slice => exact one r0
  | empty => exact one r0
  | map => exact one r0
  | func => exact one r0
  | nilFunc => exact one r0
  | nilIface => exact one r0
  | tuple => exact one r0
theorem setR {cs ds : Array Value} (h : LR ρ cs.toList ds.toList) (i : Nat) {u v : Value} (r : VR ρ u v) : LR ρ (cs.setIfInBounds i u).toList (ds.setIfInBounds i v).toList := by
  have hl : cs.size = ds.size := by simpa using h.len
  refine ⟨by simp [hl], fun j a b h1 h2 => ?_⟩
  simp only [Array.toList_setIfInBounds, List.getElem?_set] at h1 h2
  split at h1
  · rename_i e
    rw [if_pos e] at h2
    split at h1
    · split at h2
      · cases h1; cases h2; exact r
      · cases h2
    · cases h1
  · rename_i e
    rw [if_neg e] at h2
    exact h.at_ j a b h1 h2
theorem foldR {us : List Value} : ∀ {vs : List Value} {s off : Nat} {cs ds : Array Value}, LR ρ us vs → LR ρ cs.toList ds.toList →
    LR ρ ((us.zipIdx s).foldl (fun cs x => cs.setIfInBounds (off + x.2) x.1) cs).toList ((vs.zipIdx s).foldl (fun cs x => cs.setIfInBounds (off + x.2) x.1) ds).toList := by
  induction us with
  | nil => intro vs s off cs ds h k; rw [h.inv_nil]; exact k
  | cons u us ih =>
    intro vs s off cs ds h k
    obtain ⟨v, vs', rfl, r1, r2⟩ := h.inv_cons
    exact ih r2 (setR k (off + s) r1)
inductive PR (ρ : Rn) : List (Nat × Value) → List (Nat × Value) → Prop
  | nil : PR ρ [] []
  | cons {i : Nat} {u v : Value} {xs ys : List (Nat × Value)} : VR ρ u v → PR ρ xs ys → PR ρ ((i, u) :: xs) ((i, v) :: ys)
theorem fillR {g : Nat → Option (Nat × Nat)} {xs ys : List (Nat × Value)} (p : PR ρ xs ys) : ∀ {cs ds r : Array Value}, LR ρ cs.toList ds.toList → Instr.fill g cs xs = some r → ∃ r', Instr.fill g ds ys = some r' ∧ LR ρ r.toList r'.toList := by
  induction p with
  | nil => intro cs ds r h hf; cases hf; exact ⟨ds, rfl, h⟩
  | @cons i u v xs ys hr _ ih =>
    intro cs ds r h hf
    have hc := cellsR hr
    have hs : u.cells.size = v.cells.size := by simpa using hc.len
    have hl : cs.size = ds.size := by simpa using h.len
    unfold Instr.fill at hf ⊢
    cases hg : g i with
    | none => rw [hg] at hf; cases hf
    | some q =>
      obtain ⟨off, sz⟩ := q
      rw [hg] at hf
      simp only at hf ⊢
      rw [hs, hl] at hf
      split at hf
      · cases hf
      · rename_i hc2
        rw [if_neg hc2]
        refine ih ?_ hf
        have := foldR (s := 0) (off := off) hc h
        rw [← Array.foldl_toList, ← Array.foldl_toList, Array.toList_zipIdx, Array.toList_zipIdx]
        exact this
def buildE (T : Tab) (t : Nat) (parts : List (Nat × Value)) : Option Value :=
  match T.t t with
  | some i => match i.zero with
    | some z => match z.all plainV with
      | true => match i.places, i.idx with
        | [], some (some _, sz) => (match Instr.fill (fun j => some (j * sz, sz)) z.toArray parts with | some cs => some (.agg cs) | none => none)
        | _ :: _, none => (match Instr.fill (fun j => (i.places[j]?).map fun x => (x.1, x.2.1)) z.toArray parts with | some cs => some (.agg cs) | none => none)
        | _, _ => none
      | false => none
    | none => none
  | none => none
theorem plainL {z : List Value} (h : z.all plainV = true) : LR ρ z z := ⟨rfl, fun i u v h1 h2 => by
  rw [h1] at h2; cases h2; exact .plain (List.all_eq_true.1 h u (List.mem_of_getElem? h1))⟩
theorem buildE_ok {T : Tab} {t : Nat} {xs ys : List (Nat × Value)} {u : Value} (h : buildE T t xs = some u) (p : PR ρ xs ys) {F : Value → Prop} (k : ∀ v, VR ρ u v → F v) : buildK T t ys F := by
  unfold buildE at h
  split at h
  · rename_i i hi
    split at h
    · rename_i z hz
      split at h
      · rename_i hp
        have hz0 : LR ρ z.toArray.toList z.toArray.toList := by simpa using plainL hp
        unfold buildK
        rw [hi]; simp only; rw [hz]; simp only
        split at h
        · rename_i n sz e1 e2
          split at h
          · rename_i cs hf
            cases h
            obtain ⟨r', hf', rr⟩ := fillR p hz0 hf
            rw [e1, e2]; simp only; rw [hf']
            have := VR.aggL rr
            exact k _ (by simpa using this)
          · cases h
        · rename_i x l e1 e2
          split at h
          · rename_i cs hf
            cases h
            obtain ⟨r', hf', rr⟩ := fillR p hz0 hf
            have := VR.aggL rr
            split
            · rename_i q1 q2; rw [e1] at q1; cases q1
            · rename_i q1 q2
              rw [hf']; exact k _ (by simpa using this)
            · rename_i q1 q2; exact absurd e2 (q2 _ _ e1)
          · cases h
        · cases h
      · cases h
    · cases h
  · cases h
/-! ### Operands -/
def evsE (e : Env) : List Operand → Option (List Value)
  | [] => some []
  | x :: xs => match evE e x, evsE e xs with | some u, some us => some (u :: us) | _, _ => none
theorem evsE_ok {e e' : Env} (he : ER ρ e e') {xs : List Operand} : ∀ {us : List Value}, evsE e xs = some us → ∀ {F : List Value → Prop}, (∀ vs, LR ρ us vs → F vs) → evs e' xs F := by
  induction xs with
  | nil => intro us h F k; cases h; exact k _ .nil
  | cons x xs ih =>
    intro us h F k
    unfold evsE at h
    split at h
    · rename_i u us h1 h2
      cases h
      exact evE_ofV he h1 fun v r => ih h2 fun vs rs => k _ (LR.cons r rs)
    · cases h
def evpsE (e : Env) : List (Nat × Operand) → Option (List (Nat × Value))
  | [] => some []
  | (i, x) :: xs => match evE e x, evpsE e xs with | some u, some us => some ((i, u) :: us) | _, _ => none
theorem evpsE_ok {e e' : Env} (he : ER ρ e e') {xs : List (Nat × Operand)} : ∀ {us : List (Nat × Value)}, evpsE e xs = some us → ∀ {F : List (Nat × Value) → Prop}, (∀ vs, PR ρ us vs → F vs) → evps e' xs F := by
  induction xs with
  | nil => intro us h F k; cases h; exact k _ .nil
  | cons x xs ih =>
    obtain ⟨i, x⟩ := x
    intro us h F k
    unfold evpsE at h
    split at h
    · rename_i u us h1 h2
      cases h
      exact evE_ofV he h1 fun v r => ih h2 fun vs rs => k _ (.cons r rs)
    · cases h
def optE (e : Env) : Option Operand → Option (Option Value)
  | none => some none
  | some x => match evE e x with | some u => some (some u) | none => none
theorem optE_ok {e e' : Env} (he : ER ρ e e') {x : Option Operand} {o : Option Value} (h : optE e x = some o) {F : Option Value → Prop} (k : ∀ o', OR ρ o o' → F o') : optV e' x F := by
  cases x with
  | none => cases h; exact k none trivial
  | some x =>
    unfold optE at h
    simp only at h
    split at h
    · rename_i u h1; cases h; exact evE_ofV he h1 fun v r => k (some v) r
    · cases h
end
end Go.V
