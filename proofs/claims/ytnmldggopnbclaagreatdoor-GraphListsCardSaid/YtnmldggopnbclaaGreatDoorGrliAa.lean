/- A part of the proof: plain forms of functions and laws about them. -/
import Derived.WalkKit
import Derived.Below
import Derived.Orders
import Derived.Laws.Externs
namespace Go.V
open Go.RowKit (Below)
/-! ### Shapes -/
inductive Cell where
 | int (k : IntKind) | bool | str | slice | ptr | map | fn | clo | any
inductive Sh where
 | one (c : Cell) | agg (cs : List Cell) | row (n : Nat)
def ExC : Cell → (Value → Prop) → Prop
 | .int k, F => ∃ n : Int, F (.int k n)
 | .bool, F => ∃ b : Bool, F (.bool b)
 | .str, F => ∃ s : ByteArray, F (.string s)
 | .slice, F => ∃ (a : Option Addr) (l c : Nat), F (.slice a l c)
 | .ptr, F => ∃ a : Option Addr, F (.pointer a)
 | .map, F => ∃ r : Option Nat, F (.map r)
 | .fn, F => ∃ f : FuncId, F (.func (.func f) #[] #[])
 | .clo, F => ∃ (f : FuncId) (cs : Array Value), F (.func (.func f) #[] cs)
 | .any, F => ∃ v : Value, F v
def ExCs : List Cell → (List Value → Prop) → Prop
 | [], F => F []
 | c :: cs, F => ExC c fun v => ExCs cs fun vs => F (v :: vs)
def ExSh : Sh → (Value → Prop) → Prop
 | .one c, F => ExC c F
 | .agg cs, F => ExCs cs fun vs => F (.agg vs.toArray)
 | .row _, F => ∃ vs : Array Value, F (.agg vs)
def ExShs : List Sh → (List Value → Prop) → Prop
 | [], F => F []
 | c :: cs, F => ExSh c fun v => ExShs cs fun vs => F (v :: vs)
def ExR : List Sh → (Value → Prop) → Prop
 | [s], F => ExSh s F
 | ss, F => ExShs ss fun vs => F (.tuple vs.toArray)
theorem ExC_some {c : Cell} {F : Value → Prop} (h : ExC c F) : ∃ v, F v := by
 cases c <;> simp only [ExC] at h
 case slice => obtain ⟨a, l, c, h⟩ := h; exact ⟨_, h⟩
 case clo => obtain ⟨f, cs, h⟩ := h; exact ⟨_, h⟩
 all_goals (obtain ⟨x, h⟩ := h; exact ⟨_, h⟩)
theorem ExCs_some {cs : List Cell} : ∀ {F : List Value → Prop}, ExCs cs F → ∃ vs, vs.length = cs.length ∧ F vs := by
 induction cs with
 | nil => intro F h; exact ⟨[], rfl, h⟩
 | cons c cs ih =>
  intro F h
  obtain ⟨v, h⟩ := ExC_some h
  obtain ⟨vs, hl, h⟩ := ih h
  exact ⟨v :: vs, by simp [hl], h⟩
theorem ExSh_some {s : Sh} {F : Value → Prop} (h : ExSh s F) : ∃ v, F v := by
 cases s with
 | one c => exact ExC_some h
 | agg cs => obtain ⟨vs, _, h⟩ := ExCs_some h; exact ⟨_, h⟩
 | row n => obtain ⟨vs, h⟩ := h; exact ⟨_, h⟩
theorem ExShs_some {ss : List Sh} : ∀ {F : List Value → Prop}, ExShs ss F → ∃ vs, F vs := by
 induction ss with
 | nil => intro F h; exact ⟨[], h⟩
 | cons s ss ih =>
  intro F h
  obtain ⟨v, h⟩ := ExSh_some h
  obtain ⟨vs, h⟩ := ih h
  exact ⟨_, h⟩
theorem ExR_some {ss : List Sh} {F : Value → Prop} (h : ExR ss F) : ∃ v, F v := by
 match ss, h with
 | [], h => obtain ⟨vs, h⟩ := ExShs_some h; exact ⟨_, h⟩
 | [s], h => exact ExSh_some h
 | _ :: _ :: _, h => obtain ⟨vs, h⟩ := ExShs_some h; exact ⟨_, h⟩
/-! ### Slots -/
abbrev Env := List (Nat × Value)
def get : Env → Nat → Option Value
 | [], _ => none
 | (k, v) :: r, t => bif Nat.beq k t then some v else get r t
def setD (e : Env) (d : Option Nat) (v : Value) : Env := match d with | some t => (t, v) :: e | none => e
def ofV : Option Value → (Value → Prop) → Prop
 | some v, F => F v
 | none, _ => False
theorem ofV_some {o : Option Value} {F : Value → Prop} (h : ofV o F) : ∃ v, o = some v ∧ F v := by
 cases o with
 | none => exact h.elim
 | some v => exact ⟨v, rfl, h⟩
structure Ag (N : Nat) (a : Act) (e : Env) : Prop where
 size : a.tmps.size = N
 at_ : ∀ t v, get e t = some v → a.tmps.getD t undef = v
def ev (e : Env) : Operand → Option Value
 | .tmp t => get e t
 | .const v => some v
 | .global g => some (.pointer (some ⟨g, 0, none⟩))
 | .func f => some (.func (.func f) #[] #[])
theorem ev_eval {N : Nat} {a : Act} {e : Env} (h : Ag N a e) {x : Operand} {v : Value} (hx : ev e x = some v) : a.eval x = v := by
 cases x with
 | tmp t => exact h.at_ t v hx
 | const u => simpa [ev, Act.eval] using hx
 | global g => simpa [ev, Act.eval] using hx
 | func f => simpa [ev, Act.eval] using hx
def evs (e : Env) : List Operand → (List Value → Prop) → Prop
 | [], F => F []
 | x :: xs, F => ofV (ev e x) fun v => evs e xs fun vs => F (v :: vs)
theorem evs_eval {N : Nat} {a : Act} {e : Env} (h : Ag N a e) : ∀ {xs : List Operand} {F : List Value → Prop}, evs e xs F → F (xs.map a.eval)
 | [], _, hF => hF
 | x :: xs, F, hF => by
  obtain ⟨v, hx, hF⟩ := ofV_some hF
  have := evs_eval h hF
  simpa [ev_eval h hx] using this
theorem get_cons_same (e : Env) (t : Nat) (v : Value) : get ((t, v) :: e) t = some v := by simp [get]
theorem get_cons_ne {e : Env} {t d : Nat} {v : Value} (h : d ≠ t) : get ((d, v) :: e) t = get e t := by
 have : Nat.beq d t = false := by
  cases hb : Nat.beq d t with
  | true => exact absurd (Nat.eq_of_beq_eq_true hb) h
  | false => rfl
 simp [get, this]
theorem Ag.put {N : Nat} {a : Act} {e : Env} (h : Ag N a e) (d : Option Nat) (v : Value) (hd : ∀ t, d = some t → t < N) : Ag N (a.put d v) (setD e d v) := by
 cases d with
 | none => exact h
 | some t =>
  have ht := hd t rfl
  refine ⟨by simp [Act.put, h.size], fun u x hx => ?_⟩
  by_cases htu : t = u
  ·subst htu
   simp only [setD, get_cons_same, Option.some.injEq] at hx
   subst hx
   simp [Act.put, h.size, ht]
  ·rw [setD, get_cons_ne htu] at hx
   have := h.at_ u x hx
   simpa [Act.put, Array.getElem?_setIfInBounds_ne htu] using this
/-! ### Tables of types and functions -/
structure TInfo where
 sh : Sh
 /-- of a slice type: (none, cells of an element); of an array type: (its length, cells of an element) -/
 idx : Option (Option Nat × Nat) := none
 /-- of a struct type: offset and cells of each field, and whether it is a struct or an array itself -/
 places : List (Nat × Nat × Bool) := []
 /-- the cells of its zero value, where they are few -/
 zero : Option (List Value) := none
 /-- the flat form of values that '==' compares cell by cell -/
 eq : Option (List Cell) := none
 /-- an element's type, of a slice -/
 elem : Nat := 0
 bytes : Nat := 0
structure Tab where
 ty : List (Nat × TInfo)
 fn : List (Nat × List Sh)
 /-- tuples (what an operation with several values leaves) -/
 tup : List (Nat × List Sh) := []
 /-- the numbers of maps.clone, which has no body -/
 ext : List Nat := []
def look {α : Type} : List (Nat × α) → Nat → Option α
 | [], _ => none
 | (k, v) :: r, t => bif Nat.beq k t then some v else look r t
def Tab.t (T : Tab) (t : Nat) : Option TInfo := look T.ty t
theorem look_mem {α : Type} {l : List (Nat × α)} {t : Nat} {v : α} (h : look l t = some v) : (t, v) ∈ l := by
 induction l with
 | nil => cases h
 | cons x r ih =>
  obtain ⟨k, u⟩ := x
  cases hb : Nat.beq k t with
  | true =>
   simp only [look, hb, cond_true, Option.some.injEq] at h
   have : k = t := Nat.eq_of_beq_eq_true hb
   subst this; subst h; exact List.mem_cons_self
  | false =>
   simp only [look, hb, cond_false] at h
   exact List.mem_cons_of_mem _ (ih h)
def cellOk : TypeDesc → Cell → Bool
 | .bool, .bool => true
 | .int k, .int k' => k == k'
 | .string, .str => true
 | .slice _, .slice => true
 | .pointer _, .ptr => true
 | .map _ _, .map => true
 | .func .., .fn | .func .., .clo | .interface _, .any => true
 | _, _ => false
def zeroOf (P : Program) (t : Nat) : Array Value := match (P.info? t).bind (·.zero) with | some v => v.cells | none => #[]
def valEq : Value → Value → Bool
 | .int j a, .int k b => j == k && a == b
 | .bool a, .bool b => a == b
 | .string a, .string b => a.toList == b.toList
 | .slice none a b, .slice none c d => a == c && b == d
 | .pointer none, .pointer none => true
 | .map none, .map none => true
 | .nilFunc, .nilFunc => true
 | .nilIface, .nilIface => true
 | _, _ => false
def shOk (P : Program) (t : Nat) (i : TInfo) : Bool :=
 match P.underlying t, P.info? t, i.sh with
 | some (.struct _), some inf, .agg cs | some (.array _ _), some inf, .agg cs => Nat.beq inf.size cs.length && inf.zero.isSome
 | some (.struct _), some inf, .row n | some (.array _ _), some inf, .row n => Nat.beq inf.size n && inf.zero.isSome
 | some (.struct _), _, _ | some (.array _ _), _, _ => false
 | some d, some inf, .one c => cellOk d c && inf.zero.isSome && Nat.beq inf.size 1
 | _, _, _ => false
def idxOk (P : Program) (t : Nat) (i : TInfo) : Bool :=
 match i.idx with
 | none => true
 | some (none, sz) => match P.underlying t with | some (.slice e) => Nat.beq e i.elem && (match P.info? e with | some j => Nat.beq j.size sz | none => false) | _ => false
 | some (some n, sz) => match P.underlying t with | some (.array m e) => Nat.beq m n && Nat.ble 2 n && (match P.info? e with | some j => Nat.beq j.size sz | none => false) | _ => false
def aggOk (P : Program) (t : Nat) (b : Bool) : Bool := match P.underlying t with | some (.struct _) | some (.array _ _) => b | some _ => !b | none => false
def placesOk (P : Program) : List Field → List (Nat × Nat × Bool) → Bool
 | _, [] => true
 | f :: fs, (o, s, b) :: r => Nat.beq f.offset o && (match P.info? f.type with | some j => Nat.beq j.size s && Nat.ble 1 s | none => false) && aggOk P f.type b && placesOk P fs r
 | [], _ :: _ => false
def fldOk (P : Program) (t : Nat) (i : TInfo) : Bool :=
 match i.places with
 | [] => true
 | l => match P.underlying t with | some (.struct fs) => Nat.beq fs.size l.length && placesOk P fs.toList l | _ => false
def bytesOk (P : Program) (t : Nat) (i : TInfo) : Bool := match P.info? t with | some j => Nat.beq j.bytes i.bytes | none => false
def tyOk (P : Program) (x : Nat × TInfo) : Bool := shOk P x.1 x.2 && idxOk P x.1 x.2 && fldOk P x.1 x.2 && bytesOk P x.1 x.2
def eq1 : Value → Value → Bool
 | .int _ a, .int _ b => a == b
 | .bool a, .bool b => a == b
 | .string a, .string b => a == b
 | _, _ => false
def eqL : List Value → List Value → Bool
 | a :: x, b :: y => eq1 a b && eqL x y
 | _, _ => true
def isC : Cell → Value → Bool
 | .int k, .int j _ => k == j
 | .bool, .bool _ => true
 | .str, .string _ => true
 | _, _ => false
def areC : List Cell → List Value → Bool
 | [], [] => true
 | c :: cs, v :: vs => isC c v && areC cs vs
 | _, _ => false
def isExt : List Nat → Nat → Bool
 | [], _ => false
 | a :: l, g => Nat.beq a g || isExt l g
def CloneRun (P : Program) (g : Nat) : Prop := ∀ (args : Array Value) (w : World), (callFunc g args).run P w = ((Extern.MapsClone.clone args).run P w).andThen fun v w' => .ok (.value v) w'
structure Tab.Ok (P : Program) (T : Tab) : Prop where
 ty : T.ty.all (tyOk P) = true
 zero : ∀ t i l, T.t t = some i → i.zero = some l → zeroOf P t = l.toArray
 eq : ∀ t i cs, T.t t = some i → i.eq = some cs → ∀ xs ys w, areC cs xs = true → areC cs ys = true →
  (do eqGuard .eql t (.tmp 0) (.tmp 0) (.agg xs.toArray) (.agg ys.toArray); binOp .eql t (.agg xs.toArray) (.agg ys.toArray) : Sem Value).run P w = .ok (.bool (eqL xs ys)) w ∧
  (do eqGuard .neq t (.tmp 0) (.tmp 0) (.agg xs.toArray) (.agg ys.toArray); binOp .neq t (.agg xs.toArray) (.agg ys.toArray) : Sem Value).run P w = .ok (.bool (!eqL xs ys)) w
 fn : ∀ f ss, look T.fn f = some ss → ∀ args w, (callFunc f args).run P w = .ok (.enter f args) w
 ext : ∀ g, isExt T.ext g = true → CloneRun P g
theorem Tab.Ok.tyOk {P : Program} {T : Tab} (h : T.Ok P) {t : Nat} {i : TInfo} (ht : T.t t = some i) : shOk P t i = true ∧ idxOk P t i = true ∧ fldOk P t i = true ∧ bytesOk P t i = true := by
 have h1 := List.all_eq_true.1 h.ty _ (look_mem ht)
 simp only [V.tyOk, Bool.and_eq_true] at h1
 exact ⟨h1.1.1.1, h1.1.1.2, h1.1.2, h1.2⟩
end Go.V
