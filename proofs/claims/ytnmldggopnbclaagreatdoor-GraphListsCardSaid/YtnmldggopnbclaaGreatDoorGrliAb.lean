/- A part of the proof: plain forms of functions and laws about them. -/
import Derived.Test.YtnmldggopnbclaaGreatDoorGrliAa
namespace Go.V
open Go.RowKit (Below)
def BoolK (b : Bool) (X Y : Prop) : Prop := match b with | true => X | false => Y
theorem BoolK_iff {b : Bool} {X Y : Prop} : BoolK b X Y ↔ (b = true → X) ∧ (b = false → Y) := by cases b <;> simp [BoolK]
theorem BoolK.mk {b : Bool} {X Y : Prop} (h1 : b = true → X) (h2 : b = false → Y) : BoolK b X Y := BoolK_iff.2 ⟨h1, h2⟩
@[reducible] def AddrK (o : Option Addr) (F : Addr → Prop) : Prop := match o with | some a => F a | none => False
def boolOf : Value → (Bool → Prop) → Prop | .bool b, F => F b | _, _ => False
def ptrOf : Value → (Addr → Prop) → Prop | .pointer o, F => AddrK o F | _, _ => False
def aggOf : Value → (Array Value → Prop) → Prop | .agg cs, F => F cs | _, _ => False
theorem boolOf_some {v : Value} {F : Bool → Prop} (h : boolOf v F) : ∃ b, v = .bool b ∧ F b := by
 cases v <;> first | exact h.elim | exact ⟨_, rfl, h⟩
theorem AddrK_some {o : Option Addr} {F : Addr → Prop} (h : AddrK o F) : ∃ p, o = some p ∧ F p := by
 cases o with
 | none => exact h.elim
 | some p => exact ⟨p, rfl, h⟩
theorem ptrOf_some {v : Value} {F : Addr → Prop} (h : ptrOf v F) : ∃ p, v = .pointer (some p) ∧ F p := by
 cases v with
 | pointer o => obtain ⟨p, rfl, hp⟩ := AddrK_some (show AddrK o F from h); exact ⟨p, rfl, hp⟩
 | _ => exact h.elim
theorem aggOf_some {v : Value} {F : Array Value → Prop} (h : aggOf v F) : ∃ cs, v = .agg cs ∧ F cs := by
 cases v <;> first | exact h.elim | exact ⟨_, rfl, h⟩
/-! ### Loads -/
def LdCs : List Cell → World → Addr → Nat → (List Value → Prop) → Prop
 | [], _, _, _, F => F []
 | c :: cs, w, a, i, F => ExC c fun v => w.cell? (a.add i) = some v ∧ LdCs cs w a (i + 1) fun vs => F (v :: vs)
def RowAt (w : World) (a : Addr) (vs : Array Value) (n : Nat) : Prop := vs.size = n ∧ ∀ i, i < n → w.cell? (a.add i) = vs[i]?
def ldSh : Sh → World → Addr → (Value → Prop) → Prop
 | .one c, w, a, F => ExC c fun v => w.cell? a = some v ∧ F v
 | .agg cs, w, a, F => LdCs cs w a 0 fun vs => F (.agg vs.toArray)
 | .row n, w, a, F => ∃ vs : Array Value, RowAt w a vs n ∧ F (.agg vs)
theorem LdCs_some {cs : List Cell} {w : World} {a : Addr} : ∀ {i : Nat} {F : List Value → Prop}, LdCs cs w a i F →
  ∃ vs : List Value, vs.length = cs.length ∧ (∀ j v, vs[j]? = some v → w.cell? (a.add (i + j)) = some v) ∧ F vs := by
 induction cs with
 | nil => intro i F h; exact ⟨[], rfl, fun j v hj => by simp at hj, h⟩
 | cons c cs ih =>
  intro i F h
  obtain ⟨v, hv, h⟩ := ExC_some h
  obtain ⟨vs, hl, hc, h⟩ := ih h
  refine ⟨v :: vs, by simp [hl], fun j u hj => ?_, h⟩
  cases j with
  | zero => simp at hj; subst hj; exact hv
  | succ j =>
   simp at hj
   have := hc j u hj
   rw [show i + (j + 1) = i + 1 + j from by omega]
   exact this
def Cel (w w' : World) : Prop := ∀ p v, w.cell? p = some v → w'.cell? p = some v
theorem Cel.refl (w : World) : Cel w w := fun _ _ h => h
theorem Cel.trans {a b c : World} (h : Cel a b) (k : Cel b c) : Cel a c := fun p v hp => k p v (h p v hp)
theorem Below.cel {w w' : World} (h : Below w.heap.size w w') : Cel w w' := fun p v hp => by rw [h.cell (block_lt_of_cell hp)]; exact hp
theorem cell_below {w w' : World} (hB : Cel w w') {p : Addr} {v : Value} (h : w.cell? p = some v) : w'.cell? p = some v := by
 exact hB p v h
theorem run_loadVar_list {P : Program} {t n : Nat} {inf : TypeInfo} (hi : P.info? t = some inf) (hn : inf.size = n)
  (hd : (∃ fs, P.underlying t = some (.struct fs)) ∨ ∃ m e, P.underlying t = some (.array m e)) {w : World} {p : Addr} {vs : List Value} (hl : vs.length = n)
  (hc : ∀ j v, vs[j]? = some v → w.cell? (p.add j) = some v) : (loadVar t p).run P w = .ok (.agg vs.toArray) w := by
 have hag : (isAgg t).run P w = .ok true w := by
  rcases hd with ⟨fs, hd⟩ | ⟨m, e, hd⟩ <;> simp [isAgg, run_underlying hd]
 have hsz : (sizeOf t).run P w = .ok n w := by simp [sizeOf, typeInfo, hi, hn]
 have := run_loadCells_list (P := P) (w := w) p vs hc
 rw [hl] at this
 simp [loadVar, hag, hsz, this]
theorem run_loadVar_one {P : Program} {t : Nat} {d : TypeDesc} (hd : P.underlying t = some d) (hs : ∀ fs, d ≠ .struct fs) (ha : ∀ m e, d ≠ .array m e) {w : World} {p : Addr} {v : Value}
  (hc : w.cell? p = some v) : (loadVar t p).run P w = .ok v w := by
 have hag : (isAgg t).run P w = .ok false w := by
  cases d <;> simp [isAgg, run_underlying hd]
  ·exact absurd rfl (ha _ _)
  ·exact absurd rfl (hs _)
 simp [loadVar, hag, hc]
theorem shOk_cases {P : Program} {t : Nat} {i : TInfo} (h : shOk P t i = true) :
  (∃ inf d c, P.underlying t = some d ∧ P.info? t = some inf ∧ i.sh = .one c ∧ cellOk d c = true ∧ inf.size = 1 ∧ inf.zero.isSome = true ∧ (∀ fs, d ≠ .struct fs) ∧ (∀ m e, d ≠ .array m e)) ∨
  (∃ inf cs, P.info? t = some inf ∧ i.sh = .agg cs ∧ inf.size = cs.length ∧ inf.zero.isSome = true ∧ ((∃ fs, P.underlying t = some (.struct fs)) ∨ ∃ m e, P.underlying t = some (.array m e))) ∨
  (∃ inf n, P.info? t = some inf ∧ i.sh = .row n ∧ inf.size = n ∧ inf.zero.isSome = true ∧ ((∃ fs, P.underlying t = some (.struct fs)) ∨ ∃ m e, P.underlying t = some (.array m e))) := by
 unfold shOk at h
 split at h
 case h_1 fs inf cs h1 h2 h3 =>
  simp only [Bool.and_eq_true] at h
  exact .inr (.inl ⟨_, cs, h2, h3, Nat.eq_of_beq_eq_true h.1, h.2, .inl ⟨_, h1⟩⟩)
 case h_2 m e inf cs h1 h2 h3 =>
  simp only [Bool.and_eq_true] at h
  exact .inr (.inl ⟨_, cs, h2, h3, Nat.eq_of_beq_eq_true h.1, h.2, .inr ⟨_, _, h1⟩⟩)
 case h_3 fs inf n h1 h2 h3 =>
  simp only [Bool.and_eq_true] at h
  exact .inr (.inr ⟨_, n, h2, h3, Nat.eq_of_beq_eq_true h.1, h.2, .inl ⟨_, h1⟩⟩)
 case h_4 m e inf n h1 h2 h3 =>
  simp only [Bool.and_eq_true] at h
  exact .inr (.inr ⟨_, n, h2, h3, Nat.eq_of_beq_eq_true h.1, h.2, .inr ⟨_, _, h1⟩⟩)
 case h_5 => cases h
 case h_6 => cases h
 case h_7 =>
  rename_i d inf c hs ha h1 h2 h3
  simp only [Bool.and_eq_true] at h
  refine .inl ⟨_, d, c, h1, h2, h3, h.1.1, Nat.eq_of_beq_eq_true h.2, h.1.2, ?_, ?_⟩
  ·intro fs hd; exact hs _ hd
  ·intro m e hd; exact ha _ _ hd
 case h_8 => cases h
theorem ldSh_run {P : Program} {t : Nat} {i : TInfo} (hsh : shOk P t i = true) {w : World} {p : Addr} {F : Value → Prop} (h : ldSh i.sh w p F) :
  ∃ v, F v ∧ ∀ w', Cel w w' → (loadVar t p).run P w' = .ok v w' := by
 rcases shOk_cases hsh with ⟨inf, d, c, hu, hi, hs, hc, hz, _, h1, h2⟩ | ⟨inf, cs, hi, hs, hz, _, hd⟩ | ⟨inf, n, hi, hs, hz, _, hd⟩
 ·rw [hs] at h
  obtain ⟨v, hv, hF⟩ := ExC_some h
  exact ⟨v, hF, fun w' hB => run_loadVar_one hu h1 h2 (cell_below hB hv)⟩
 ·rw [hs] at h
  obtain ⟨vs, hl, hc, hF⟩ := LdCs_some h
  exact ⟨_, hF, fun w' hB => run_loadVar_list hi hz hd hl fun j v hj => cell_below hB (by simpa using hc j v hj)⟩
 ·rw [hs] at h
  obtain ⟨vs, ⟨hl, hc⟩, hF⟩ := h
  refine ⟨_, hF, fun w' hB => ?_⟩
  have := run_loadVar_list (P := P) (w := w') (p := p) (vs := vs.toList) hi hz hd (by simpa using hl) fun j v hj => by
   have hj' : vs[j]? = some v := by simpa using hj
   have hlt : j < n := by
    have := (Array.getElem?_eq_some_iff.1 hj').1; omega
   exact cell_below hB ((hc j hlt).trans hj')
  simpa using this
/-! ### Operators -/
def binInt (op : BinOp) (k : IntKind) (x y : Int) (F : Value → Prop) : Prop :=
 match op with
 | .add => F (.int k (k.wrap (x + y)))
 | .sub => F (.int k (k.wrap (x - y)))
 | .mul => F (.int k (k.wrap (x * y)))
 | .quo => y ≠ 0 ∧ F (.int k (k.wrap (x.tdiv y)))
 | .rem => y ≠ 0 ∧ F (.int k (x.tmod y))
 | .and => F (.int k (k.wrap ((BitVec.ofInt k.bits x) &&& (BitVec.ofInt k.bits y)).toNat))
 | .or => F (.int k (k.wrap ((BitVec.ofInt k.bits x) ||| (BitVec.ofInt k.bits y)).toNat))
 | .xor => F (.int k (k.wrap ((BitVec.ofInt k.bits x) ^^^ (BitVec.ofInt k.bits y)).toNat))
 | .andNot => F (.int k (k.wrap ((BitVec.ofInt k.bits x) &&& ~~~(BitVec.ofInt k.bits y)).toNat))
 | .shl => 0 ≤ y ∧ F (.int k (k.wrap (x * 2 ^ (min y.toNat k.bits))))
 | .shr => 0 ≤ y ∧ F (.int k (x.fdiv (2 ^ (min y.toNat k.bits))))
 | .eql => F (.bool (x == y))
 | .neq => F (.bool (x != y))
 | .lss => F (.bool (x < y))
 | .leq => F (.bool (x ≤ y))
 | .gtr => F (.bool (x > y))
 | .geq => F (.bool (x ≥ y))
def binStr (op : BinOp) (x y : ByteArray) (F : Value → Prop) : Prop :=
 match op with
 | .add => ((x.size + y.size : Nat) : Int) ≤ IntKind.i64.max ∧ F (.string (x ++ y))
 | .eql => F (.bool (x.toList == y.toList))
 | .neq => F (.bool (!(x.toList == y.toList)))
 | .lss => F (.bool (Op.bytesLess x.toList y.toList))
 | .leq => F (.bool (Op.bytesLess x.toList y.toList || x.toList == y.toList))
 | .gtr => F (.bool (!(Op.bytesLess x.toList y.toList || x.toList == y.toList)))
 | .geq => F (.bool (!Op.bytesLess x.toList y.toList))
 | _ => False
def cst : Operand → Bool | .const _ => true | _ => false
def eqK (T : Tab) (neg c : Bool) (t : Nat) (a b : Value) (F : Value → Prop) : Prop :=
 match T.t t with
 | none => False
 | some i =>
  match i.sh, a, b with
  | .one .bool, .bool x, .bool y => F (.bool (bif neg then !(x == y) else x == y))
  | .one .ptr, .pointer o, .pointer none => F (.bool (bif neg then !o.isNone else o.isNone))
  | .one .slice, .slice o _ _, .slice none _ _ => F (.bool (bif neg then !o.isNone else o.isNone))
  | .one .map, .map o, .map none => F (.bool (bif neg then !o.isNone else o.isNone))
  | .one .any, .nilIface, .nilIface => match c with | true => F (.bool (bif neg then false else true)) | false => False
  | .agg _, .agg xs, .agg ys =>
   match i.eq with
   | some cs => match areC cs xs.toList && areC cs ys.toList with | true => F (.bool (bif neg then !eqL xs.toList ys.toList else eqL xs.toList ys.toList)) | false => False
   | none => False
  | _, _, _ => False
def binK (T : Tab) (op : BinOp) (c : Bool) (t : Nat) (a b : Value) (F : Value → Prop) : Prop :=
 match a, b with
 | .int k x, .int k' y => match (match op with | .shl | .shr => true | _ => decide (k = k')) with | true => binInt op k x y F | false => False
 | .string x, .string y => binStr op x y F
 | a, b => match op with | .eql => eqK T false c t a b F | .neq => eqK T true c t a b F | _ => False
def unK (op : UnOp) (v : Value) (F : Value → Prop) : Prop :=
 match op, v with
 | .neg, .int k n => F (.int k (k.wrap (0 - n)))
 | .not, .bool b => F (.bool !b)
 | .xor, .int k n => F (.int k (k.wrap ((BitVec.ofInt k.bits (if k.signed then -1 else k.max)) ^^^ (BitVec.ofInt k.bits n)).toNat))
 | _, _ => False
def convK (T : Tab) (src dst : Nat) (v : Value) (F : Value → Prop) : Prop :=
 match T.t src, T.t dst with
 | some i, some j => match i.sh, j.sh, v with
  | .one (.int _), .one (.int k), .int _ n => F (.int k (k.wrap n))
  | .one .str, .one .str, .string s => F (.string s)
  | _, _, _ => False
 | _, _ => False
def minK (v u : Value) (F : Value → Prop) : Prop := match v, u with | .int k x, .int _ y => F (.int k (if y < x then y else x)) | _, _ => False
def maxK (v u : Value) (F : Value → Prop) : Prop := match v, u with | .int k x, .int _ y => F (.int k (if y > x then y else x)) | _, _ => False
section
variable {P : Program} {T : Tab} (hT : T.Ok P)
theorem run_equalIn_ptr {t : Nat} {e : TypeId} (hu : P.underlying t = some (.pointer e)) (d : Nat) (o : Option Addr) (w : World) :
  (Op.equalIn (d + 1) t (.pointer o) (.pointer none)).run P w = .ok o.isNone w := by
 cases o <;> simp [Op.equalIn, run_underlying hu]
theorem run_equalIn_slc {t : Nat} {e : TypeId} (hu : P.underlying t = some (.slice e)) (d : Nat) (o : Option Addr) (n c n' c' : Nat) (w : World) :
  (Op.equalIn (d + 1) t (.slice o n c) (.slice none n' c')).run P w = .ok o.isNone w := by
 cases o <;> simp [Op.equalIn, run_underlying hu]
theorem run_equalIn_mp {t : Nat} {k e : TypeId} (hu : P.underlying t = some (.map k e)) (d : Nat) (o : Option Nat) (w : World) :
  (Op.equalIn (d + 1) t (.map o) (.map none)).run P w = .ok o.isNone w := by
 cases o <;> simp [Op.equalIn, run_underlying hu]
theorem equal_def (t : Nat) (x y : Value) : Op.equal t x y = Op.equalIn (9999 + 1) t x y := rfl
theorem binInt_run {op : BinOp} {k k' : IntKind} {x y : Int} {t : Nat} {ox oy : Operand} {F : Value → Prop} (hk : (match op with | .shl | .shr => true | _ => decide (k = k')) = true) (h : binInt op k x y F) :
  ∃ v, F v ∧ ∀ w, (do eqGuard op t ox oy (.int k x) (.int k' y); binOp op t (.int k x) (.int k' y) : Sem Value).run P w = .ok v w := by
 cases op <;> simp only [binInt] at h <;> simp only [decide_eq_true_eq] at hk
 case quo => subst hk; exact ⟨_, h.2, fun w => by simp [eqGuard, binOp, Op.intDiv, h.1]⟩
 case rem => subst hk; exact ⟨_, h.2, fun w => by simp [eqGuard, binOp, Op.intDiv, h.1]⟩
 case shl => exact ⟨_, h.2, fun w => by simp [eqGuard, binOp, Op.shift, Int.not_lt.2 h.1]⟩
 case shr => exact ⟨_, h.2, fun w => by simp [eqGuard, binOp, Op.shift, Int.not_lt.2 h.1]⟩
 all_goals subst hk; exact ⟨_, h, fun w => by simp [eqGuard, binOp, Op.intArith, Op.intBits, Op.intCmp]⟩
theorem binStr_run {op : BinOp} {x y : ByteArray} {t : Nat} {ox oy : Operand} {F : Value → Prop} (h : binStr op x y F) :
  ∃ v, F v ∧ ∀ w, (do eqGuard op t ox oy (.string x) (.string y); binOp op t (.string x) (.string y) : Sem Value).run P w = .ok v w := by
 cases op <;> simp only [binStr] at h
 case add => exact ⟨_, h.2, fun w => by
  simp only [eqGuard, binOp, Op.stringOp, Sem.run_bind, Sem.run_pure, if_neg (Int.not_lt.2 h.1), gt_iff_lt, Bool.not_false, if_true]
  simp⟩
 all_goals first | exact h.elim | exact ⟨_, h, fun w => by simp [eqGuard, binOp, Op.stringOp]⟩
include hT in
theorem eqK_run {neg : Bool} {t : Nat} {a b : Value} {ox oy : Operand} {F : Value → Prop} (h : eqK T neg (cst ox || cst oy) t a b F) :
  ∃ v, F v ∧ ∀ w, (do eqGuard (bif neg then .neq else .eql) t ox oy a b; binOp (bif neg then .neq else .eql) t a b : Sem Value).run P w = .ok v w := by
 unfold eqK at h
 split at h
 ·exact h.elim
 rename_i i hi
 obtain ⟨hsh, _⟩ := hT.tyOk hi
 split at h
 case h_1 x y hs =>
  rcases shOk_cases hsh with ⟨inf, d, c, hu, _, hs', hc, _⟩ | ⟨_, _, _, hs', _⟩ | ⟨_, _, _, hs', _⟩
  ·rw [hs] at hs'; cases hs'
   have hd : d = .bool := by cases d <;> simp [cellOk] at hc; rfl
   subst hd
   refine ⟨_, h, fun w => ?_⟩
   cases neg <;> simp [eqGuard, run_eql_bool, run_neq_bool, hu]
  ·rw [hs] at hs'; cases hs'
  ·rw [hs] at hs'; cases hs'
 case h_2 o hs =>
  rcases shOk_cases hsh with ⟨inf, d, c, hu, _, hs', hc, _⟩ | ⟨_, _, _, hs', _⟩ | ⟨_, _, _, hs', _⟩
  ·rw [hs] at hs'; cases hs'
   obtain ⟨e, hd⟩ : ∃ e, d = .pointer e := by cases d <;> simp [cellOk] at hc; exact ⟨_, rfl⟩
   subst hd
   refine ⟨_, h, fun w => ?_⟩
   cases neg <;> simp [eqGuard, binOp, equal_def, run_equalIn_ptr hu]
  ·rw [hs] at hs'; cases hs'
  ·rw [hs] at hs'; cases hs'
 case h_3 o _ _ _ _ hs =>
  rcases shOk_cases hsh with ⟨inf, d, c, hu, _, hs', hc, _⟩ | ⟨_, _, _, hs', _⟩ | ⟨_, _, _, hs', _⟩
  ·rw [hs] at hs'; cases hs'
   obtain ⟨e, hd⟩ : ∃ e, d = .slice e := by cases d <;> simp [cellOk] at hc; exact ⟨_, rfl⟩
   subst hd
   refine ⟨_, h, fun w => ?_⟩
   cases neg <;> simp [eqGuard, binOp, equal_def, run_equalIn_slc hu]
  ·rw [hs] at hs'; cases hs'
  ·rw [hs] at hs'; cases hs'
 case h_4 o hs =>
  rcases shOk_cases hsh with ⟨inf, d, c, hu, _, hs', hc, _⟩ | ⟨_, _, _, hs', _⟩ | ⟨_, _, _, hs', _⟩
  ·rw [hs] at hs'; cases hs'
   obtain ⟨k, e, hd⟩ : ∃ k e, d = .map k e := by cases d <;> simp [cellOk] at hc; exact ⟨_, _, rfl⟩
   subst hd
   refine ⟨_, h, fun w => ?_⟩
   cases neg <;> simp [eqGuard, binOp, equal_def, run_equalIn_mp hu]
  ·rw [hs] at hs'; cases hs'
  ·rw [hs] at hs'; cases hs'
 case h_5 hs =>
  rcases shOk_cases hsh with ⟨inf, d, c, hu, _, hs', hc, _⟩ | ⟨_, _, _, hs', _⟩ | ⟨_, _, _, hs', _⟩
  ·rw [hs] at hs'; cases hs'
   obtain ⟨ms, hd⟩ : ∃ ms, d = .interface ms := by cases d <;> simp [cellOk] at hc; exact ⟨_, rfl⟩
   subst hd
   split at h
   ·rename_i hcc
    refine ⟨_, h, fun w => ?_⟩
    have hg : ∀ op, (eqGuard op t ox oy .nilIface .nilIface).run P w = .ok () w := fun op => by
     cases ox <;> cases oy <;> simp [cst] at hcc <;> cases op <;> simp [eqGuard]
    have he : ∀ d, (Op.equalIn (d + 1) t .nilIface .nilIface).run P w = .ok true w := fun d => by simp [Op.equalIn, run_underlying hu]
    rw [Sem.run_bind, hg, Result.andThen_ok]
    cases neg <;> simp [binOp, equal_def, he]
   ·exact h.elim
  ·rw [hs] at hs'; cases hs'
  ·rw [hs] at hs'; cases hs'
 case h_6 cs xs ys hs =>
  split at h
  ·rename_i cs' he
   split at h
   ·rename_i hc
    simp only [Bool.and_eq_true] at hc
    refine ⟨_, h, fun w => ?_⟩
    obtain ⟨e1, e2⟩ := hT.eq t i cs' hi he xs.toList ys.toList w hc.1 hc.2
    cases neg
    ·simpa [eqGuard] using e1
    ·simpa [eqGuard] using e2
   ·exact h.elim
  ·exact h.elim
 case h_7 => exact h.elim
include hT in
theorem binK_run {op : BinOp} {t : Nat} {a b : Value} {ox oy : Operand} {F : Value → Prop} (h : binK T op (cst ox || cst oy) t a b F) :
  ∃ v, F v ∧ ∀ w, (do eqGuard op t ox oy a b; binOp op t a b : Sem Value).run P w = .ok v w := by
 unfold binK at h
 split at h
 ·split at h
  ·rename_i hk; exact binInt_run hk h
  ·exact h.elim
 ·exact binStr_run h
 ·cases op <;> simp only at h
  case eql => exact eqK_run hT (neg := false) h
  case neq => exact eqK_run hT (neg := true) h
  all_goals exact h.elim
theorem unK_run {op : UnOp} {v : Value} {F : Value → Prop} (h : unK op v F) : ∃ u, F u ∧ ∀ w, (Op.unary op v).run P w = .ok u w := by
 unfold unK at h
 split at h
 ·exact ⟨_, h, fun w => by simp [Op.unary, Op.intArith]⟩
 ·exact ⟨_, h, fun w => by simp [Op.unary]⟩
 ·exact ⟨_, h, fun w => by simp [Op.unary, Op.intBits]⟩
 ·exact h.elim
include hT in
theorem convK_run {src dst : Nat} {v : Value} {F : Value → Prop} (h : convK T src dst v F) : ∃ u, F u ∧ ∀ w, (convert src dst v).run P w = .ok u w := by
 unfold convK at h
 split at h
 ·rename_i i j hi hj
  obtain ⟨hsi, _⟩ := hT.tyOk hi
  obtain ⟨hsj, _⟩ := hT.tyOk hj
  split at h
  ·rename_i k' k k'' n hs hd
   rcases shOk_cases hsi with ⟨_, d, c, hu, _, hs', hc, _⟩ | ⟨_, _, _, hs', _⟩ | ⟨_, _, _, hs', _⟩
   ·rw [hs] at hs'; cases hs'
    rcases shOk_cases hsj with ⟨_, d2, c2, hu2, _, hs2, hc2, _⟩ | ⟨_, _, _, hs', _⟩ | ⟨_, _, _, hs', _⟩
    ·rw [hd] at hs2; cases hs2
     obtain ⟨q, hq⟩ : ∃ q, d2 = .int q ∧ q = k := by cases d2 <;> simp [cellOk] at hc2; exact ⟨_, rfl, hc2⟩
     obtain ⟨rfl, rfl⟩ := hq
     obtain ⟨q2, hq2⟩ : ∃ q, d = .int q := by cases d <;> simp [cellOk] at hc; exact ⟨_, rfl⟩
     subst hq2
     exact ⟨_, h, fun w => by simp [convert, run_underlying hu, run_underlying hu2, Conv.intToInt]⟩
    ·rw [hd] at hs'; cases hs'
    ·rw [hd] at hs'; cases hs'
   ·rw [hs] at hs'; cases hs'
   ·rw [hs] at hs'; cases hs'
  ·rename_i s hs hd
   rcases shOk_cases hsi with ⟨_, d, c, hu, _, hs', hc, _⟩ | ⟨_, _, _, hs', _⟩ | ⟨_, _, _, hs', _⟩
   ·rw [hs] at hs'; cases hs'
    rcases shOk_cases hsj with ⟨_, d2, c2, hu2, _, hs2, hc2, _⟩ | ⟨_, _, _, hs', _⟩ | ⟨_, _, _, hs', _⟩
    ·rw [hd] at hs2; cases hs2
     have e2 : d2 = .string := by cases d2 <;> simp [cellOk] at hc2; rfl
     have e1 : d = .string := by cases d <;> simp [cellOk] at hc; rfl
     subst e1; subst e2
     exact ⟨_, h, fun w => by simp [convert, run_underlying hu, run_underlying hu2]⟩
    ·rw [hd] at hs'; cases hs'
    ·rw [hd] at hs'; cases hs'
   ·rw [hs] at hs'; cases hs'
   ·rw [hs] at hs'; cases hs'
  ·exact h.elim
 ·exact h.elim
end
end Go.V
