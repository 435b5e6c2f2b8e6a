/- A part of the proof: plain forms of functions and laws about them. -/
import Derived.Test.YtnmldggopnbclaaGreatDoorGrliAb
namespace Go.V
open Go.RowKit (Below)
def idxK (T : Tab) (t : Nat) (x i : Value) (F : Value → Prop) : Prop :=
 match T.t t, i with
 | some inf, .int _ n => match inf.idx, x with
  | some (none, sz), .slice a len _ => (0 ≤ n ∧ n < (len : Int)) ∧ AddrK a fun p => F (.pointer (some (p.add (n.toNat * sz))))
  | some (some len, sz), .pointer a => (0 ≤ n ∧ n < (len : Int)) ∧ AddrK a fun p => F (.pointer (some (p.add (n.toNat * sz))))
  | _, _ => False
 | _, _ => False
def fldK (T : Tab) (s f : Nat) (x : Value) (F : Value → Prop) : Prop :=
 match T.t s with
 | some inf => match inf.places[f]? with
  | some (o, _, _) => ptrOf x fun p => F (.pointer (some (p.add o)))
  | none => False
 | none => False
def fieldK (T : Tab) (s f : Nat) (x : Value) (F : Value → Prop) : Prop :=
 match T.t s with
 | some inf => match inf.places[f]? with
  | some (o, n, true) => aggOf x fun cs => F (.agg (cs.extract o (o + n)))
  | some (o, _, false) => aggOf x fun cs => ofV cs[o]? F
  | none => False
 | none => False
def strIdxK (T : Tab) (t : Nat) (x i : Value) (F : Value → Prop) : Prop :=
 match T.t t with
 | some inf => match inf.sh, x, i with
  | .one .str, .string s, .int _ n => ∃ b : UInt8, (0 ≤ n ∧ s[n.toNat]? = some b) ∧ F (.int .u8 b.toNat)
  | _, _, _ => False
 | none => False
def bndK (o : Option Value) (d : Nat) (F : Nat → Prop) : Prop :=
 match o with
 | none => F d
 | some (.int _ n) => 0 ≤ n ∧ F n.toNat
 | some _ => False
def sliceK (T : Tab) (t : Nat) (x : Value) (lo hi : Option Value) (F : Value → Prop) : Prop :=
 match T.t t with
 | some inf => match inf.sh, inf.idx, x with
  | .one .str, _, .string s => bndK lo 0 fun l => bndK hi s.size fun h => (l ≤ h ∧ h ≤ s.size) ∧ F (.string (s.extract l h))
  | _, some (none, sz), .slice a len cap => bndK lo 0 fun l => bndK hi len fun h => (l ≤ h ∧ h ≤ cap) ∧ F (.slice (if cap = l then a else a.map (·.add (l * sz))) (h - l) (cap - l))
  | _, _, _ => False
 | none => False
def lenK (T : Tab) (t : Nat) (v : Value) (F : Value → Prop) : Prop :=
 match T.t t with
 | some i => match i.sh, v with
  | .one .str, .string s => F (.int .i64 (s.size : Nat))
  | .one .slice, .slice _ n _ => F (.int .i64 (n : Nat))
  | _, _ => False
 | none => False
def capK (T : Tab) (t : Nat) (v : Value) (F : Value → Prop) : Prop :=
 match T.t t with
 | some i => match i.sh, v with
  | .one .slice, .slice _ _ n => F (.int .i64 (n : Nat))
  | _, _ => False
 | none => False
def buildK (T : Tab) (t : Nat) (parts : List (Nat × Value)) (F : Value → Prop) : Prop :=
 match T.t t with
 | some i => match i.zero with
  | some z => match i.places, i.idx with
   | [], some (some _, sz) => match Instr.fill (fun j => some (j * sz, sz)) z.toArray parts with | some cs => F (.agg cs) | none => False
   | _ :: _, none => match Instr.fill (fun j => (i.places[j]?).map fun x => (x.1, x.2.1)) z.toArray parts with | some cs => F (.agg cs) | none => False
   | _, _ => False
  | none => False
 | none => False
def evps (e : Env) : List (Nat × Operand) → (List (Nat × Value) → Prop) → Prop
 | [], F => F []
 | (i, x) :: xs, F => ofV (ev e x) fun v => evps e xs fun vs => F ((i, v) :: vs)
theorem evps_eval {N : Nat} {a : Act} {e : Env} (h : Ag N a e) : ∀ {xs : List (Nat × Operand)} {F : List (Nat × Value) → Prop}, evps e xs F → F (xs.map fun (i, x) => (i, a.eval x))
 | [], _, hF => hF
 | (i, x) :: xs, F, hF => by
  obtain ⟨v, hx, hF⟩ := ofV_some hF
  have := evps_eval h hF
  simpa [ev_eval h hx] using this
def optV (e : Env) : Option Operand → (Option Value → Prop) → Prop
 | none, F => F none
 | some x, F => ofV (ev e x) fun v => F (some v)
def hasLen (T : Tab) (t : Nat) : Bool := match T.t t with | some i => (match i.sh with | .one .str | .one .slice => true | _ => false) | none => false
def isPure (T : Tab) : Op → Bool
 | .move _ | .assign _ | .pick .. | .load .. | .build .. | .nilCheck _ | .binOp .. | .unOp .. | .fieldAddr .. | .field .. | .indexAddr .. | .extract .. => true
 | .index t _ _ => match T.t t with | some i => (match i.sh with | .one .str => true | _ => false) | none => false
 | .slice t _ _ _ none => hasLen T t
 | .convert s d _ => match T.t s, T.t d with | some i, some j => (match i.sh, j.sh with | .one (.int _), .one (.int _) | .one .str, .one .str => true | _, _ => false) | _, _ => false
 | .call { callee := .builtin .len, args := _, argTypes := ts } => match ts[0]? with | some t => hasLen T t | none => false
 | .call { callee := .builtin .cap, .. } | .call { callee := .builtin .min, .. } | .call { callee := .builtin .max, .. } => true
 | _ => false
def pureV (T : Tab) (op : Op) (e : Env) (w : World) (F : Value → Prop) : Prop :=
 match op with
 | .move x | .assign x => ofV (ev e x) F
 | .pick c a b => ofV (ev e c) fun v => boolOf v fun t => BoolK t (ofV (ev e a) F) (ofV (ev e b) F)
 | .load t x => ofV (ev e x) fun v => ptrOf v fun p => match T.t t with | some i => ldSh i.sh w p F | none => False
 | .nilCheck x => ofV (ev e x) fun v => ptrOf v fun p => F (.pointer (some p))
 | .binOp op t x y _ => ofV (ev e x) fun a => ofV (ev e y) fun b => binK T op (cst x || cst y) t a b F
 | .unOp op _ x => ofV (ev e x) fun a => unK op a F
 | .convert s d x => ofV (ev e x) fun a => convK T s d a F
 | .fieldAddr s x f => ofV (ev e x) fun a => fldK T s f a F
 | .field s x f => ofV (ev e x) fun a => fieldK T s f a F
 | .indexAddr t x i => ofV (ev e x) fun a => ofV (ev e i) fun b => idxK T t a b F
 | .index t x i => ofV (ev e x) fun a => ofV (ev e i) fun b => strIdxK T t a b F
 | .slice t x lo hi none => ofV (ev e x) fun a => optV e lo fun l => optV e hi fun h => sliceK T t a l h F
 | .build t ps => evps e ps.toList fun vs => buildK T t vs F
 | .extract x i => ofV (ev e x) fun a => match a with | .tuple vs => ofV vs[i]? F | _ => False
 | .call { callee := .builtin .len, args := xs, argTypes := ts } => match ts.toList with | [t] => (evs e xs.toList fun vs => match vs with | [v] => lenK T t v F | _ => False) | _ => False
 | .call { callee := .builtin .cap, args := xs, argTypes := ts } => match ts.toList with | [t] => (evs e xs.toList fun vs => match vs with | [v] => capK T t v F | _ => False) | _ => False
 | .call { callee := .builtin .min, args := xs, argTypes := _ } => evs e xs.toList fun vs => match vs with | [v, u] => minK v u F | _ => False
 | .call { callee := .builtin .max, args := xs, argTypes := _ } => evs e xs.toList fun vs => match vs with | [v, u] => maxK v u F | _ => False
 | _ => False
def Leaves (P : Program) (s : Sem Next) (w : World) (F : Value → Prop) : Prop :=
 ∃ v, F v ∧ ∀ w', Cel w w' → s.run P w' = .ok (.value v) w'
theorem Leaves.mk {P : Program} {s : Sem Value} {w : World} {F : Value → Prop} (h : ∃ v, F v ∧ ∀ w', Cel w w' → s.run P w' = .ok v w') :
  Leaves P (do pure (.value (← s))) w F := by
 obtain ⟨v, hF, hr⟩ := h
 exact ⟨v, hF, fun w' hB => by simp [hr w' hB]⟩
theorem Leaves.all {P : Program} {s : Sem Value} {w : World} {F : Value → Prop} (h : ∃ v, F v ∧ ∀ w', s.run P w' = .ok v w') :
  Leaves P (do pure (.value (← s))) w F := by
 obtain ⟨v, hF, hr⟩ := h
 exact Leaves.mk ⟨v, hF, fun w' _ => hr w'⟩
section
variable {P : Program} {T : Tab} (hT : T.Ok P)
theorem idxOk_slice {t : Nat} {i : TInfo} {sz : Nat} (h : idxOk P t i = true) (hi : i.idx = some (none, sz)) :
  ∃ j, P.underlying t = some (.slice i.elem) ∧ P.info? i.elem = some j ∧ j.size = sz := by
 unfold idxOk at h
 rw [hi] at h
 simp only at h
 split at h
 ·rename_i e he
  simp only [Bool.and_eq_true] at h
  have := Nat.eq_of_beq_eq_true h.1
  subst this
  split at h
  ·rename_i j hj; exact ⟨j, he, hj, Nat.eq_of_beq_eq_true h.2⟩
  ·simp at h
 ·cases h
theorem idxOk_array {t : Nat} {i : TInfo} {n sz : Nat} (h : idxOk P t i = true) (hi : i.idx = some (some n, sz)) :
  ∃ e j, P.underlying t = some (.array n e) ∧ P.info? e = some j ∧ j.size = sz ∧ 2 ≤ n := by
 unfold idxOk at h
 rw [hi] at h
 simp only at h
 split at h
 ·rename_i m e he
  simp only [Bool.and_eq_true] at h
  have := Nat.eq_of_beq_eq_true h.1.1
  subst this
  split at h
  ·rename_i j hj; exact ⟨e, j, he, hj, Nat.eq_of_beq_eq_true h.2, Nat.le_of_ble_eq_true h.1.2⟩
  ·simp at h
 ·cases h
include hT in
theorem idxK_run {t : Nat} {x i : Value} {F : Value → Prop} (h : idxK T t x i F) : ∃ v, F v ∧ ∀ w, (Instr.indexAt t x i).run P w = .ok v w := by
 unfold idxK at h
 split at h
 case h_2 => exact h.elim
 rename_i inf k n hi
 obtain ⟨_, hix, _, _⟩ := hT.tyOk hi
 split at h
 ·rename_i sz a len c hidx
  obtain ⟨hb, h⟩ := h
  obtain ⟨p, rfl, hF⟩ := AddrK_some h
  obtain ⟨j, hu, hj, hz⟩ := idxOk_slice hix hidx
  exact ⟨_, hF, fun w => by simp [Instr.indexAt, asIntOf, run_underlying hu, hb, sizeOf, typeInfo, hj, hz]⟩
 ·rename_i len sz a hidx
  obtain ⟨hb, h⟩ := h
  obtain ⟨p, rfl, hF⟩ := AddrK_some h
  obtain ⟨e, j, hu, hj, hz, _⟩ := idxOk_array hix hidx
  exact ⟨_, hF, fun w => by simp [Instr.indexAt, Instr.sureAddr, asIntOf, run_underlying hu, hb, sizeOf, typeInfo, hj, hz]⟩
 ·exact h.elim
theorem placesOk_get {fs : List Field} {l : List (Nat × Nat × Bool)} (h : placesOk P fs l = true) (k o s : Nat) (b : Bool) (hk : l[k]? = some (o, s, b)) :
  ∃ f j, fs[k]? = some f ∧ f.offset = o ∧ P.info? f.type = some j ∧ j.size = s ∧ 1 ≤ s ∧ aggOk P f.type b = true := by
 induction l generalizing fs k with
 | nil => simp at hk
 | cons x r ih =>
  obtain ⟨o', s', b'⟩ := x
  cases fs with
  | nil => simp [placesOk] at h
  | cons f fs =>
   simp only [placesOk, Bool.and_eq_true] at h
   cases k with
   | zero =>
    simp only [List.getElem?_cons_zero, Option.some.injEq, Prod.mk.injEq] at hk
    obtain ⟨rfl, rfl, rfl⟩ := hk
    obtain ⟨⟨⟨h1, h2⟩, h3⟩, _⟩ := h
    split at h2
    ·rename_i j hj
     simp only [Bool.and_eq_true] at h2
     exact ⟨f, j, rfl, Nat.eq_of_beq_eq_true h1, hj, Nat.eq_of_beq_eq_true h2.1, Nat.le_of_ble_eq_true h2.2, h3⟩
    ·cases h2
   | succ k =>
    simp only [List.getElem?_cons_succ] at hk
    obtain ⟨g, j, h1, h2⟩ := ih h.2 k hk
    exact ⟨g, j, by simpa using h1, h2⟩
theorem fldOk_get {t : Nat} {i : TInfo} (h : fldOk P t i = true) {k o s : Nat} {b : Bool} (hk : i.places[k]? = some (o, s, b)) :
  ∃ fs f j, P.underlying t = some (.struct fs) ∧ fs[k]? = some f ∧ f.offset = o ∧ P.info? f.type = some j ∧ j.size = s ∧ 1 ≤ s ∧ aggOk P f.type b = true := by
 unfold fldOk at h
 split at h
 ·rename_i hn; rw [hn] at hk; simp at hk
 ·split at h
  ·rename_i fs hu
   simp only [Bool.and_eq_true] at h
   obtain ⟨f, j, h1, h2⟩ := placesOk_get h.2 k o s b hk
   exact ⟨fs, f, j, hu, by simpa using h1, h2⟩
  ·cases h
include hT in
theorem fldK_run {s f : Nat} {x : Value} {F : Value → Prop} (h : fldK T s f x F) : ∃ v, F v ∧ ∀ w, (Instr.fieldAt s x f).run P w = .ok v w := by
 unfold fldK at h
 split at h
 case h_2 => exact h.elim
 rename_i inf hi
 obtain ⟨_, _, hfl, _⟩ := hT.tyOk hi
 split at h
 case h_2 => exact h.elim
 rename_i o n b hp
 obtain ⟨p, rfl, hF⟩ := ptrOf_some h
 obtain ⟨fs, fd, j, hu, hf, ho, hj, hz, hn, _⟩ := fldOk_get hfl hp
 refine ⟨_, hF, fun w => ?_⟩
 have : ¬ j.size = 0 := by omega
 simp [Instr.fieldAt, run_underlying hu, hf, Instr.sureAddr, fieldPlace, sizeOf, typeInfo, hj, this, ho]
include hT in
theorem fieldK_run {s f : Nat} {x : Value} {F : Value → Prop} (h : fieldK T s f x F) : ∃ v, F v ∧ ∀ w, (Instr.field s x f).run P w = .ok v w := by
 unfold fieldK at h
 split at h
 case h_2 => exact h.elim
 rename_i inf hi
 obtain ⟨_, _, hfl, _⟩ := hT.tyOk hi
 split at h
 ·rename_i o n hp
  obtain ⟨cs, rfl, hF⟩ := aggOf_some h
  obtain ⟨fs, fd, j, hu, hf, ho, hj, hz, hn, hag⟩ := fldOk_get hfl hp
  refine ⟨_, hF, fun w => ?_⟩
  have hA : (isAgg fd.type).run P w = .ok true w := by
   unfold aggOk at hag
   split at hag
   ·rename_i g hg; simp [isAgg, run_underlying hg]
   ·rename_i g g2 hg; simp [isAgg, run_underlying hg]
   ·cases hag
   ·cases hag
  simp [Instr.field, run_underlying hu, hf, asAgg, part, hA, sizeOf, typeInfo, hj, hz, ho]
 ·rename_i o n hp
  obtain ⟨cs, rfl, h⟩ := aggOf_some h
  obtain ⟨v, hv, hF⟩ := ofV_some h
  obtain ⟨fs, fd, j, hu, hf, ho, hj, hz, hn, hag⟩ := fldOk_get hfl hp
  refine ⟨_, hF, fun w => ?_⟩
  have hA : (isAgg fd.type).run P w = .ok false w := by
   unfold aggOk at hag
   split at hag
   ·cases hag
   ·cases hag
   ·rename_i d hs ha hg
    cases d <;> simp [isAgg, run_underlying hg]
    ·exact ha _ _ rfl
    ·exact hs _ rfl
   ·cases hag
  simp [Instr.field, run_underlying hu, hf, asAgg, part, hA, ho, hv]
 ·exact h.elim
include hT in
theorem strIdxK_run {t : Nat} {x i : Value} {F : Value → Prop} (h : strIdxK T t x i F) : ∃ v, F v ∧ ∀ w, (Instr.index t x i).run P w = .ok v w := by
 unfold strIdxK at h
 split at h
 case h_2 => exact h.elim
 rename_i inf hi
 obtain ⟨hsh, _⟩ := hT.tyOk hi
 split at h
 case h_2 => exact h.elim
 rename_i s k n hs
 obtain ⟨b, ⟨h0, hb⟩, hF⟩ := h
 rcases shOk_cases hsh with ⟨_, d, c, hu, _, hs', hc, _⟩ | ⟨_, _, _, hs', _⟩ | ⟨_, _, _, hs', _⟩
 ·rw [hs] at hs'; cases hs'
  have e1 : d = .string := by cases d <;> simp [cellOk] at hc; rfl
  subst e1
  exact ⟨_, hF, fun w => by simp [Instr.index, asIntOf, run_underlying hu, h0, hb]⟩
 ·rw [hs] at hs'; cases hs'
 ·rw [hs] at hs'; cases hs'
include hT in
theorem sliceK_run {t : Nat} {x : Value} {lo hi : Option Value} {F : Value → Prop} (h : sliceK T t x lo hi F) :
  ∃ v, F v ∧ ∀ w, (Instr.sliceAt t x lo hi none).run P w = .ok v w := by
 unfold sliceK at h
 split at h
 case h_2 => exact h.elim
 rename_i inf hi'
 obtain ⟨hsh, hix, _, _⟩ := hT.tyOk hi'
 split at h
 ·rename_i s hs
  rcases shOk_cases hsh with ⟨_, d, c, hu, _, hs', hc, _⟩ | ⟨_, _, _, hs', _⟩ | ⟨_, _, _, hs', _⟩
  ·rw [hs] at hs'; cases hs'
   have e1 : d = .string := by cases d <;> simp [cellOk] at hc; rfl
   subst e1
   unfold bndK at h
   split at h
   ·split at h
    ·exact ⟨_, h.2, fun w => by simp [Instr.sliceAt, Instr.slice, run_underlying hu, Instr.sliceBounds]⟩
    ·obtain ⟨h1, ⟨h2, h3⟩, hF⟩ := h
     rename_i k n
     refine ⟨_, hF, fun w => ?_⟩
     simp [Instr.sliceAt, Instr.slice, run_underlying hu, Instr.sliceBounds, run_sliceBound, h1, show n ≤ (s.size : Int) by omega]
    ·exact h.elim
   ·obtain ⟨h0, h⟩ := h
    split at h
    ·obtain ⟨⟨h2, h3⟩, hF⟩ := h
     rename_i k n _
     refine ⟨_, hF, fun w => ?_⟩
     simp [Instr.sliceAt, Instr.slice, run_underlying hu, Instr.sliceBounds, run_sliceBound, h0, show n ≤ (s.size : Int) by omega]
    ·obtain ⟨h1, ⟨h2, h3⟩, hF⟩ := h
     rename_i k n _ k' n'
     refine ⟨_, hF, fun w => ?_⟩
     have e := run_sliceBound (P := P) (w := w) k n n'.toNat .sliceB h0 (by omega)
     simp [Instr.sliceAt, Instr.slice, run_underlying hu, Instr.sliceBounds, run_sliceBound, h1, show n' ≤ (s.size : Int) by omega, e]
    ·exact h.elim
   ·exact h.elim
  ·rw [hs] at hs'; cases hs'
  ·rw [hs] at hs'; cases hs'
 ·rename_i sz a len cap hidx
  obtain ⟨j, hu, hj, hz⟩ := idxOk_slice hix hidx
  unfold bndK at h
  split at h
  ·split at h
   ·exact ⟨_, h.2, fun w => by simp [Instr.sliceAt, Instr.slice, run_underlying hu, Instr.sliceBounds, sizeOf, typeInfo, hj]⟩
   ·obtain ⟨h1, ⟨h2, h3⟩, hF⟩ := h
    rename_i k n
    refine ⟨_, hF, fun w => ?_⟩
    simp [Instr.sliceAt, Instr.slice, run_underlying hu, Instr.sliceBounds, run_sliceBound, h1, show n ≤ (cap : Int) by omega, sizeOf, typeInfo, hj]
   ·exact h.elim
  ·obtain ⟨h0, h⟩ := h
   split at h
   ·obtain ⟨⟨h2, h3⟩, hF⟩ := h
    rename_i k n _
    refine ⟨_, hF, fun w => ?_⟩
    simp [Instr.sliceAt, Instr.slice, run_underlying hu, Instr.sliceBounds, run_sliceBound, h0, show n ≤ (len : Int) by omega, sizeOf, typeInfo, hj, hz]
   ·obtain ⟨h1, ⟨h2, h3⟩, hF⟩ := h
    rename_i k n _ k' n'
    refine ⟨_, hF, fun w => ?_⟩
    have e := run_sliceBound (P := P) (w := w) k n n'.toNat .sliceB h0 (by omega)
    simp [Instr.sliceAt, Instr.slice, run_underlying hu, Instr.sliceBounds, run_sliceBound, h1, show n' ≤ (cap : Int) by omega, e, sizeOf, typeInfo, hj, hz]
   ·exact h.elim
  ·exact h.elim
 ·exact h.elim
theorem run_mapM_sizes {w : World} : ∀ (fs : List Field) (l : List (Nat × Nat × Bool)), placesOk P fs l = true → fs.length = l.length →
  (fs.mapM fun f => do pure (f.offset, ← sizeOf f.type) : Sem (List (Nat × Nat))).run P w = .ok (l.map fun x => (x.1, x.2.1)) w
 | [], [], _, _ => rfl
 | f :: fs, (o, s, b) :: r, h, hl => by
  simp only [placesOk, Bool.and_eq_true] at h
  obtain ⟨⟨⟨h1, h2⟩, _⟩, h4⟩ := h
  split at h2
  ·rename_i j hj
   simp only [Bool.and_eq_true] at h2
   have ih := run_mapM_sizes (w := w) fs r h4 (by simpa using hl)
   have ho := Nat.eq_of_beq_eq_true h1
   have hz := Nat.eq_of_beq_eq_true h2.1
   have hs : (sizeOf f.type).run P w = .ok s w := by simp [sizeOf, typeInfo, hj, hz]
   simp only [List.mapM_cons, Sem.run_bind, hs, Result.andThen_ok, Sem.run_pure, ih, ho, List.map_cons]
  ·cases h2
 | _ :: _, [], _, hl => by simp at hl
 | [], _ :: _, _, hl => by simp at hl
include hT in
theorem zero_run {t : Nat} {i : TInfo} (hi : T.t t = some i) {z : List Value} (hz : i.zero = some z) {w : World} : ∃ v, (zeroValue t).run P w = .ok v w ∧ v.cells = z.toArray := by
 obtain ⟨hsh, _⟩ := hT.tyOk hi
 have h0 := hT.zero t i z hi hz
 have : ∃ inf, P.info? t = some inf ∧ inf.zero.isSome = true := by
  rcases shOk_cases hsh with ⟨inf, _, _, _, hj, _, _, _, hzz, _⟩ | ⟨inf, _, hj, _, _, hzz, _⟩ | ⟨inf, _, hj, _, _, hzz, _⟩ <;> exact ⟨inf, hj, hzz⟩
 obtain ⟨inf, hj, hzz⟩ := this
 obtain ⟨v, hv⟩ := Option.isSome_iff_exists.1 hzz
 refine ⟨v, by simp [zeroValue, typeInfo, hj, hv], ?_⟩
 simpa [zeroOf, hj, hv] using h0
include hT in
theorem buildK_run {t : Nat} {parts : List (Nat × Value)} {F : Value → Prop} (h : buildK T t parts F) : ∃ v, F v ∧ ∀ w, (Instr.build t parts.toArray).run P w = .ok v w := by
 unfold buildK at h
 split at h
 case h_2 => exact h.elim
 rename_i i hi
 obtain ⟨hsh, hix, hfl, _⟩ := hT.tyOk hi
 split at h
 case h_2 => exact h.elim
 rename_i z hz
 split at h
 ·rename_i n sz hpl hidx
  split at h
  ·rename_i cs hcs
   refine ⟨_, h, fun w => ?_⟩
   obtain ⟨e, j, hu, hj, hsz, _⟩ := idxOk_array hix hidx
   obtain ⟨v, hv, hc⟩ := zero_run hT hi hz (w := w)
   simp [Instr.build, hv, run_underlying hu, sizeOf, typeInfo, hj, hsz, hc, hcs]
  ·exact h.elim
 ·rename_i p ps hpl hidx
  split at h
  ·rename_i cs hcs
   refine ⟨_, h, fun w => ?_⟩
   obtain ⟨v, hv, hc⟩ := zero_run hT hi hz (w := w)
   unfold fldOk at hfl
   rw [hpl] at hfl
   split at hfl
   ·rename_i hq; cases hq
   ·rename_i l hne
    split at hfl
    ·rename_i fs hu
     simp only [Bool.and_eq_true] at hfl
     have hm := run_mapM_sizes (P := P) (w := w) fs.toList _ hfl.2 (by simpa using Nat.eq_of_beq_eq_true hfl.1)
     have hm2 : (fs.mapM fun f => do pure (f.offset, ← sizeOf f.type) : Sem (Array (Nat × Nat))).run P w = .ok (((p :: ps).map fun x => (x.1, x.2.1))).toArray w := by
      rw [Array.mapM_eq_mapM_toList, Sem.run_map, hm]; rfl
     have hfun : (fun (j : Nat) => (((p :: ps).map fun (x : Nat × Nat × Bool) => (x.1, x.2.1)).toArray)[j]?) = (fun (j : Nat) => (i.places[j]?).map fun (x : Nat × Nat × Bool) => (x.1, x.2.1)) := by
      funext j; rw [hpl, List.getElem?_toArray, List.getElem?_map]
     simp only [Instr.build, Sem.run_bind, hv, Result.andThen_ok, run_underlying hu, hm2, hc]
     rw [hfun, hcs]
     simp
    ·cases hfl
  ·exact h.elim
 ·exact h.elim
include hT in
theorem lenK_run {t : Nat} {v : Value} {F : Value → Prop} (h : lenK T t v F) : ∃ u, F u ∧ ∀ ty w, (Builtin.len_ #[t] ty #[v]).run P w = .ok u w := by
 unfold lenK at h
 split at h
 case h_2 => exact h.elim
 rename_i i hi
 obtain ⟨hsh, _⟩ := hT.tyOk hi
 rcases shOk_cases hsh with ⟨_, d, c, hu, _, hs', hc, _⟩ | ⟨_, _, _, hs', _⟩ | ⟨_, _, _, hs', _⟩
 ·rw [hs'] at h
  split at h
  ·rename_i s hs; cases hs
   have e1 : d = .string := by cases d <;> simp [cellOk] at hc; rfl
   subst e1
   exact ⟨_, h, fun ty w' => by simp [Builtin.len_, run_underlying hu, goInt]⟩
  ·rename_i a n c' hs; cases hs
   obtain ⟨el, e1⟩ : ∃ e, d = .slice e := by cases d <;> simp [cellOk] at hc; exact ⟨_, rfl⟩
   subst e1
   exact ⟨_, h, fun ty w' => by simp [Builtin.len_, run_underlying hu, goInt]⟩
  ·exact h.elim
 ·rw [hs'] at h; simp at h
 ·rw [hs'] at h; simp at h
include hT in
theorem capK_run {t : Nat} {v : Value} {F : Value → Prop} (h : capK T t v F) : ∃ u, F u ∧ ∀ ty w, (Builtin.cap_ #[t] ty #[v]).run P w = .ok u w := by
 unfold capK at h
 split at h
 case h_2 => exact h.elim
 rename_i i hi
 obtain ⟨hsh, _⟩ := hT.tyOk hi
 rcases shOk_cases hsh with ⟨_, d, c, hu, _, hs', hc, _⟩ | ⟨_, _, _, hs', _⟩ | ⟨_, _, _, hs', _⟩
 ·rw [hs'] at h
  split at h
  ·rename_i a n c' hs; cases hs
   obtain ⟨el, e1⟩ : ∃ e, d = .slice e := by cases d <;> simp [cellOk] at hc; exact ⟨_, rfl⟩
   subst e1
   exact ⟨_, h, fun ty w' => by simp [Builtin.cap_, run_underlying hu, goInt]⟩
  ·exact h.elim
 ·rw [hs'] at h; simp at h
 ·rw [hs'] at h; simp at h
end
end Go.V
