/- A part of the proof: plain forms of functions and laws about them. -/
import Derived.Test.YtnmldggopnbclaaGreatDoorGrliAc
namespace Go.V
open Go.RowKit (Below)
section
variable {P : Program} {T : Tab} (hT : T.Ok P)
include hT in
theorem pureV_sound {N : Nat} {a : Act} {e : Env} (hA : Ag N a e) {o : Oper} {w : World} {F : Value → Prop} (h : pureV T o.op e w F) :
  Leaves P (execOp a.eval o) w F := by
 obtain ⟨dst, op, type, pos, after, guard⟩ := o
 cases op <;> simp only [pureV] at h <;> simp only [execOp]
 case move x => obtain ⟨v, hx, hF⟩ := ofV_some h; exact ⟨v, hF, fun w' _ => by simp [ev_eval hA hx]⟩
 case assign x => obtain ⟨v, hx, hF⟩ := ofV_some h; exact ⟨v, hF, fun w' _ => by simp [ev_eval hA hx]⟩
 case pick c x y =>
  obtain ⟨v, hc, h⟩ := ofV_some h
  obtain ⟨t, rfl, h⟩ := boolOf_some h
  have hcv := ev_eval hA hc
  cases t with
  | true => obtain ⟨v, hx, hF⟩ := ofV_some (show ofV (ev e x) F from h); exact ⟨v, hF, fun w' _ => by simp [hcv, asBool, ev_eval hA hx]⟩
  | false => obtain ⟨v, hx, hF⟩ := ofV_some (show ofV (ev e y) F from h); exact ⟨v, hF, fun w' _ => by simp [hcv, asBool, ev_eval hA hx]⟩
 case load t x =>
  obtain ⟨v, hx, h⟩ := ofV_some h
  obtain ⟨p, rfl, h⟩ := ptrOf_some h
  split at h
  ·rename_i i hi
   obtain ⟨u, hF, hr⟩ := ldSh_run (hT.tyOk hi).1 h
   exact ⟨u, hF, fun w' hB => by simp [ev_eval hA hx, Instr.loadAt, Instr.sureAddr, hr w' hB]⟩
  ·exact h.elim
 case nilCheck x =>
  obtain ⟨v, hx, h⟩ := ofV_some h
  obtain ⟨p, rfl, h⟩ := ptrOf_some h
  exact ⟨_, h, fun w' _ => by simp [ev_eval hA hx]⟩
 case binOp op t x y yt =>
  obtain ⟨v, hx, h⟩ := ofV_some h
  obtain ⟨u, hy, h⟩ := ofV_some h
  have := Leaves.all (w := w) (binK_run hT (ox := x) (oy := y) h)
  simpa [ev_eval hA hx, ev_eval hA hy] using this
 case unOp op t x =>
  obtain ⟨v, hx, h⟩ := ofV_some h
  have := Leaves.all (P := P) (w := w) (unK_run h)
  simpa [ev_eval hA hx] using this
 case convert s d x =>
  obtain ⟨v, hx, h⟩ := ofV_some h
  have := Leaves.all (w := w) (convK_run hT h)
  simpa [ev_eval hA hx] using this
 case fieldAddr s x f =>
  obtain ⟨v, hx, h⟩ := ofV_some h
  have := Leaves.all (w := w) (fldK_run hT h)
  simpa [ev_eval hA hx] using this
 case field s x f =>
  obtain ⟨v, hx, h⟩ := ofV_some h
  have := Leaves.all (w := w) (fieldK_run hT h)
  simpa [ev_eval hA hx] using this
 case indexAddr t x i =>
  obtain ⟨v, hx, h⟩ := ofV_some h
  obtain ⟨u, hy, h⟩ := ofV_some h
  have := Leaves.all (w := w) (idxK_run hT h)
  simpa [ev_eval hA hx, ev_eval hA hy] using this
 case index t x i =>
  obtain ⟨v, hx, h⟩ := ofV_some h
  obtain ⟨u, hy, h⟩ := ofV_some h
  have := Leaves.all (w := w) (strIdxK_run hT h)
  simpa [ev_eval hA hx, ev_eval hA hy] using this
 case slice t x lo hi mx =>
  cases mx with
  | some m => exact h.elim
  | none =>
   obtain ⟨v, hx, h⟩ := ofV_some h
   have hl : ∃ l, lo.map a.eval = l ∧ optV e hi fun h' => sliceK T t v l h' F := by
    cases lo with
    | none => exact ⟨none, rfl, h⟩
    | some y => obtain ⟨u, hy, h⟩ := ofV_some (show ofV (ev e y) _ from h); exact ⟨some u, by simp [ev_eval hA hy], h⟩
   obtain ⟨l, hl, h⟩ := hl
   have hh : ∃ h', hi.map a.eval = h' ∧ sliceK T t v l h' F := by
    cases hi with
    | none => exact ⟨none, rfl, h⟩
    | some y => obtain ⟨u, hy, h⟩ := ofV_some (show ofV (ev e y) _ from h); exact ⟨some u, by simp [ev_eval hA hy], h⟩
   obtain ⟨h', hh, h⟩ := hh
   have := Leaves.all (w := w) (sliceK_run hT h)
   rw [hl, hh]
   simpa [ev_eval hA hx] using this
 case build t ps =>
  have h := evps_eval hA h
  have := Leaves.all (w := w) (buildK_run hT h)
  rw [show (ps.map fun x => (x.1, a.eval x.2)) = (ps.toList.map fun (i, x) => (i, a.eval x)).toArray by apply Array.ext'; simp]
  exact this
 case extract x i =>
  obtain ⟨v, hx, h⟩ := ofV_some h
  split at h
  ·obtain ⟨u, hu, hF⟩ := ofV_some h
   exact ⟨u, hF, fun w' _ => by simp [ev_eval hA hx, Instr.extract, hu]⟩
  ·exact h.elim
 case call c =>
  obtain ⟨callee, xs, ts⟩ := c
  cases callee with
  | value f => exact h.elim
  | invoke r m => exact h.elim
  | builtin b =>
   cases b <;> simp only at h
   case len =>
    split at h
    ·rename_i t ht
     have h := evs_eval hA h
     split at h
     ·rename_i v hv
      have hx : xs.map a.eval = #[v] := by apply Array.ext'; simpa using hv
      have ht' : ts = #[t] := by apply Array.ext'; simpa using ht
      subst ht'
      obtain ⟨u, hF, hr⟩ := lenK_run hT h
      exact ⟨_, hF, fun w' _ => by simp [resolve, hx, invoke, builtin, hr]⟩
     ·exact h.elim
    ·exact h.elim
   case cap =>
    split at h
    ·rename_i t ht
     have h := evs_eval hA h
     split at h
     ·rename_i v hv
      have hx : xs.map a.eval = #[v] := by apply Array.ext'; simpa using hv
      have ht' : ts = #[t] := by apply Array.ext'; simpa using ht
      subst ht'
      obtain ⟨u, hF, hr⟩ := capK_run hT h
      exact ⟨_, hF, fun w' _ => by simp [resolve, hx, invoke, builtin, hr]⟩
     ·exact h.elim
    ·exact h.elim
   case min =>
    have h := evs_eval hA h
    split at h
    ·rename_i v u hv
     have hx : xs.map a.eval = #[v, u] := by apply Array.ext'; simpa using hv
     unfold minK at h
     split at h
     ·exact ⟨_, h, fun w' _ => by simp [resolve, hx, invoke, builtin, run_min_int2]⟩
     ·exact h.elim
    ·exact h.elim
   case max =>
    have h := evs_eval hA h
    split at h
    ·rename_i v u hv
     have hx : xs.map a.eval = #[v, u] := by apply Array.ext'; simpa using hv
     unfold maxK at h
     split at h
     ·exact ⟨_, h, fun w' _ => by simp [resolve, hx, invoke, builtin, run_max_int2]⟩
     ·exact h.elim
    ·exact h.elim
   all_goals exact h.elim
 all_goals exact h.elim
end
/-! ### Effects -/
theorem amap {α β : Type} (xs : Array α) (f : α → β) : (xs.toList.map f).toArray = xs.map f := by apply Array.ext'; simp
def zeroA (P : Program) (t : Nat) (i : TInfo) : Array Value := match i.zero with | some l => l.toArray | none => zeroOf P t
def AllocK (w : World) (cs : Array Value) (t : Nat) (K : Addr → World → Prop) : Prop := K ⟨w.heap.size, 0, none⟩ (w.alloc (.cells cs t))
def SetK (w : World) (p : Addr) (u : Value) (F : World → Prop) : Prop := ((∃ x, w.cell? p = some x) ∧ w.frozen? p = false) ∧ F (w.setCell p u)
def StCs : List Value → World → Addr → Nat → (World → Prop) → Prop
 | [], w, _, _, F => F w
 | v :: vs, w, p, i, F => SetK w (p.add i) v fun w' => StCs vs w' p (i + 1) F
def StRow (w : World) (p : Addr) (vs : Array Value) (n : Nat) (F : World → Prop) : Prop :=
 (vs.size = n ∧ vs.all (·.oneCell') = true ∧ p.off = 0 ∧ p.spot = none ∧ ∃ cs t, w.heap[p.block]? = some (.cells cs t (0, 0)) ∧ cs.size = n) ∧ F (w.setRow p.block vs)
def oneCells : List Value → Bool
 | [] => true
 | v :: vs => v.oneCell' && oneCells vs
def st1 (u : Value) (w : World) (p : Addr) (F : World → Prop) : Prop := match u.oneCell' with | true => SetK w p u F | false => False
def stSh : Sh → Value → World → Addr → (World → Prop) → Prop
 | .one _, u, w, p, F => st1 u w p F
 | .agg cs, u, w, p, F => aggOf u fun vs => match Nat.beq vs.toList.length cs.length && oneCells vs.toList with | true => StCs vs.toList w p 0 F | false => False
 | .row n, u, w, p, F => aggOf u fun vs => StRow w p vs n F
def stK (T : Tab) (t : Nat) (p : Addr) (u : Value) (w : World) (F : World → Prop) : Prop :=
 match T.t t with
 | some i => stSh i.sh u w p F
 | none => False
def callArgs (first : List Value) (vs : List Value) (cap : List Value) : Array Value :=
 match first, cap with
 | [], [] => vs.toArray
 | a, b => (a ++ vs ++ b).toArray
def Enters (P : Program) (g : FuncId) : Prop := ∀ args w, (callFunc g args).run P w = .ok (.enter g args) w
def CallV (P : Program) (g : FuncId) (args : Array Value) (rs : List Sh) (K : Value → World → Prop) (w : World) : Prop :=
 Calls P g args w fun en w' => ExR rs fun v => en = .returned v ∧ K v w'
def RunN (P : Program) (s : Sem Value) (rs : List Sh) (K : Value → World → Prop) (w : World) : Prop :=
 ExR rs fun v => ∃ w', s.run P w = .ok v w' ∧ K v w'
def RunF (P : Program) (g : FuncId) (args : Array Value) (rs : List Sh) (K : Value → World → Prop) (w : World) : Prop :=
 ExR rs fun v => ∃ w', (callFunc g args).run P w = .ok (.value v) w' ∧ K v w'
def rsOf (T : Tab) (t : Nat) : List Sh := match look T.tup t with | some l => l | none => match T.t t with | some i => [i.sh] | none => []
def litCells (z : List Value) (n : Nat) : List Value := match n with | 0 => [] | n + 1 => z ++ litCells z n
def buildSliceK (T : Tab) (t n : Nat) (parts : List (Nat × Value)) (w : World) (K : Value → World → Prop) : Prop :=
 match T.t t with
 | some i => match i.idx, T.t i.elem with
  | some (none, sz), some j => match j.zero with
   | some z => match Nat.beq z.length sz && Nat.ble (n * sz) 16777216 with
    | true => match Instr.fill (fun j => some (j * sz, sz)) (litCells z n).toArray parts with
     | some cs => AllocK w cs i.elem fun b w' => K (.slice (some b) n n) w'
     | none => False
    | false => False
   | none => False
  | _, _ => False
 | none => False
def makeK (P : Program) (T : Tab) (t : Nat) (l c : Value) (w : World) (K : Value → World → Prop) : Prop :=
 match T.t t, l, c with
 | some i, .int _ l, .int _ c => match i.idx, T.t i.elem with
  | some (none, sz), some j => (0 ≤ l ∧ l ≤ c ∧ (j.bytes : Int) * c ≤ 281474976710656 ∧ c ≤ 9223372036854775807) ∧
    AllocK w (madeCells (zeroA P i.elem j) (c.toNat * sz)) i.elem fun b w' => K (.slice (some b) l.toNat c.toNat) w'
  | _, _ => False
 | _, _, _ => False
def meRs (T : Tab) (t : Nat) : List Sh := match T.t t with | some i => (match T.t i.elem with | some j => [j.sh, .one (.int .i64)] | none => []) | none => []
def effV (P : Program) (T : Tab) (o : Oper) (e : Env) (K : Value → World → Prop) (w : World) : Prop :=
 match o.op with
 | .alloc t => match T.t t with | some i => AllocK w (zeroA P t i) t fun b w' => K (.pointer (some b)) w' | none => False
 | .box t x => ofV (ev e x) fun v => AllocK w v.cells t fun b w' => K (.pointer (some b)) w'
 | .store t x y => ofV (ev e x) fun v => ptrOf v fun p => ofV (ev e y) fun u => stK T t p u w fun w' => K undef w'
 | .buildSlice t n ps => evps e ps.toList fun vs => buildSliceK T t n vs w K
 | .makeSlice t l c => ofV (ev e l) fun l => ofV (ev e c) fun c => makeK P T t l c w K
 | .call { callee := .value (.func g), args := xs, .. } => evs e xs.toList fun vs => match look T.fn g with | some rs => CallV P g vs.toArray rs K w | none => RunF P g vs.toArray (rsOf T o.type) K w
 | .call { callee := .value f, args := xs, .. } => ofV (ev e f) fun fv => match fv with
  | .func (.func g) first cap => evs e xs.toList fun vs => Enters P g ∧ CallV P g (callArgs first.toList vs cap.toList) (rsOf T o.type) K w
  | _ => False
 | .call { callee := .builtin .append, args := xs, argTypes := ts } => evs e xs.toList fun vs => RunN P (Builtin.append_ ts o.type vs.toArray) (rsOf T o.type) K w
 | .call { callee := .builtin .copy, args := xs, argTypes := ts } => evs e xs.toList fun vs => RunN P (Builtin.copy_ ts o.type vs.toArray) (rsOf T o.type) K w
 | .call { callee := .builtin .delete, args := xs, argTypes := ts } => evs e xs.toList fun vs => RunN P (Builtin.delete_ ts o.type vs.toArray) [] K w
 | .call { callee := .builtin .len, args := xs, argTypes := ts } => evs e xs.toList fun vs => RunN P (Builtin.len_ ts o.type vs.toArray) (rsOf T o.type) K w
 | .call { callee := .builtin .clear, args := xs, argTypes := ts } => evs e xs.toList fun vs => RunN P (Builtin.clear_ ts o.type vs.toArray) [] K w
 | .convert s d x => ofV (ev e x) fun v => RunN P (convert s d v) (rsOf T o.type) K w
 | .index t x i => ofV (ev e x) fun v => ofV (ev e i) fun u => RunN P (Instr.index t v u) (rsOf T o.type) K w
 | .slice t x lo hi mx => ofV (ev e x) fun v => optV e lo fun l => optV e hi fun h => optV e mx fun m => RunN P (Instr.sliceAt t v l h m) (rsOf T o.type) K w
 | .makeFunc f first cap => evs e first.toList fun a => evs e cap.toList fun b => K (.func f a.toArray b.toArray) w
 | .makeMap t r => optV e r fun r => RunN P (Instr.makeMap t r) (rsOf T o.type) K w
 | .lookup t x i ok => ofV (ev e x) fun v => ofV (ev e i) fun u => RunN P (Instr.lookup t v u ok) (rsOf T o.type) K w
 | .mapUpdate t m k x => ofV (ev e m) fun m => ofV (ev e k) fun k => ofV (ev e x) fun x => ∃ w', (Instr.mapUpdate t m k x).run P w = .ok () w' ∧ K undef w'
 | .insert t m k x => ofV (ev e m) fun m => ofV (ev e k) fun k => ofV (ev e x) fun x => ∃ w', (Instr.mapUpdate t m k x).run P w = .ok () w' ∧ K undef w'
 | .mapEntry t m k => ofV (ev e m) fun m => ofV (ev e k) fun k => RunN P (Instr.mapEntry t m k) (meRs T t) K w
 | .entryStore t m s x => ofV (ev e m) fun m => ofV (ev e s) fun s => ofV (ev e x) fun x => ∃ w', (Instr.entryStore t m s x).run P w = .ok () w' ∧ K undef w'
 | .range t x => ofV (ev e x) fun v => ∃ u w', (Instr.range t v).run P w = .ok u w' ∧ K u w'
 | .next it s => ofV (ev e it) fun v => ∃ u w', (Instr.next v s o.type).run P w = .ok u w' ∧ K u w'
 | .entry it => ofV (ev e it) fun v => ∃ u w', (Instr.entry v).run P w = .ok u w' ∧ K u w'
 | .makeInterface t x => ofV (ev e x) fun v => ∃ u w', (Instr.makeInterface t v).run P w = .ok u w' ∧ K u w'
 | .typeAssert x s a ok => ofV (ev e x) fun v => ∃ u w', (Instr.typeAssert v s a ok).run P w = .ok u w' ∧ K u w'
 | _ => False
def opV (P : Program) (T : Tab) (o : Oper) (e : Env) (K : Value → World → Prop) (w : World) : Prop :=
 match isPure T o.op with
 | true => pureV T o.op e w fun v => K v w
 | false => effV P T o e K w
def Goes (P : Program) (s : Sem Next) (K : Value → World → Prop) (w : World) : Prop :=
 (∃ v w', s.run P w = .ok (.value v) w' ∧ K v w') ∨ (∃ w', s.run P w = .ok .skip w' ∧ K undef w') ∨
 (∃ g args, s.run P w = .ok (.enter g args) w ∧ Calls P g args w fun en w' => ∃ v, en = .returned v ∧ K v w')
theorem Goes.val {P : Program} {s : Sem Value} {K : Value → World → Prop} {w : World} (h : ∃ v w', s.run P w = .ok v w' ∧ K v w') : Goes P (do pure (.value (← s))) K w := by
 obtain ⟨v, w', hr, hK⟩ := h
 exact .inl ⟨v, w', by simp [hr], hK⟩
theorem Goes.unit {P : Program} {s : Sem Unit} {K : Value → World → Prop} {w : World} (h : ∃ w', s.run P w = .ok () w' ∧ K undef w') : Goes P (do s; pure .skip) K w := by
 obtain ⟨w', hr, hK⟩ := h
 exact .inr (.inl ⟨w', by simp [hr], hK⟩)
theorem Goes.runN {P : Program} {s : Sem Value} {rs : List Sh} {K : Value → World → Prop} {w : World} (h : RunN P s rs K w) : Goes P (do pure (.value (← s))) K w := by
 obtain ⟨v, w', hr, hK⟩ := ExR_some h
 exact Goes.val ⟨v, w', hr, hK⟩
theorem CallV.goes {P : Program} {g : FuncId} {args : Array Value} {rs : List Sh} {K : Value → World → Prop} {w : World} (h : CallV P g args rs K w) :
  Calls P g args w fun en w' => ∃ v, en = .returned v ∧ K v w' :=
 Calls.mono h fun _ _ h' => ExR_some h'
theorem oneCells_all {vs : List Value} (h : oneCells vs = true) : ∀ v ∈ vs, v.oneCell' = true := by
 induction vs with
 | nil => simp
 | cons v vs ih =>
  simp only [oneCells, Bool.and_eq_true] at h
  intro u hu
  rcases List.mem_cons.1 hu with rfl | hu
  ·exact h.1
  ·exact ih h.2 u hu
theorem StCs_run {P : Program} {vs : List Value} : ∀ {w : World} {p : Addr} {i : Nat} {F : World → Prop}, StCs vs w p i F → (∀ v ∈ vs, v.oneCell' = true) →
  ∃ w', (storeCells p vs i).run P w = .ok () w' ∧ F w' := by
 induction vs with
 | nil => intro w p i F h _; exact ⟨w, rfl, h⟩
 | cons v vs ih =>
  intro w p i F h h1
  obtain ⟨⟨⟨u, hu⟩, hf⟩, h⟩ := h
  obtain ⟨w', hr, hF⟩ := ih h fun v hv => h1 v (List.mem_cons_of_mem _ hv)
  refine ⟨w', ?_, hF⟩
  have := run_store P w (p.add i) v .plain (h1 v List.mem_cons_self)
  simp only [storeCells, Sem.run_bind, this]
  simp [hu, hf, hr]
section
variable {P : Program} {T : Tab} (hT : T.Ok P)
theorem cells_one {u : Value} (h : u.oneCell' = true) : u.cells = #[u] := by cases u <;> first | rfl | simp [Value.oneCell'] at h
include hT in
theorem stK_run {t : Nat} {p : Addr} {u : Value} {w : World} {F : World → Prop} (h : stK T t p u w F) : ∃ w', (storeVar t p u).run P w = .ok () w' ∧ F w' := by
 unfold stK at h
 split at h
 case h_2 => exact h.elim
 rename_i i hi
 obtain ⟨hsh, _⟩ := hT.tyOk hi
 rcases shOk_cases hsh with ⟨inf, d, c, _, hj, hs', _, hz, _⟩ | ⟨inf, cs, hj, hs', hz, _, _⟩ | ⟨inf, n, hj, hs', hz, _, _⟩
 ·rw [hs'] at h
  simp only [stSh, st1] at h
  split at h
  ·rename_i h1
   obtain ⟨⟨⟨x, hx⟩, hf⟩, hF⟩ := h
   refine ⟨_, ?_, hF⟩
   have := run_store P w (p.add 0) u .plain h1
   have ha : p.add 0 = p := rfl
   rw [ha] at this
   simp [storeVar, sizeOf, typeInfo, hj, hz, cells_one h1, storeCells, ha, this, hx, hf]
  ·exact h.elim
 ·rw [hs'] at h
  obtain ⟨vs, rfl, h⟩ := aggOf_some (show aggOf u _ from h)
  dsimp only [stSh, aggOf] at h
  split at h
  ·rename_i hb
   simp only [Bool.and_eq_true] at hb
   obtain ⟨w', hr, hF⟩ := StCs_run (P := P) h (oneCells_all hb.2)
   have hl := Nat.eq_of_beq_eq_true hb.1
   refine ⟨w', ?_, hF⟩
   have : vs.size = inf.size := by rw [hz, ← hl]; simp
   simp [storeVar, sizeOf, typeInfo, hj, Value.cells, this, hr]
  ·exact h.elim
 ·rw [hs'] at h
  obtain ⟨vs, rfl, h⟩ := aggOf_some (show aggOf u _ from h)
  obtain ⟨⟨h1, h2, h3, h4, cs, ty, h5, h6⟩, hF⟩ := h
  refine ⟨_, ?_, hF⟩
  have hp : p = ⟨p.block, 0, none⟩ := by cases p; simp_all
  rw [hp]
  refine run_storeVar_row w p.block ty t cs _ h5 ?_ (by omega) h2
  simp [hj, hz, h1]
theorem litCells_eq (z : List Value) (_hz : z ≠ []) : ∀ n, (litCells z n).toArray = (Array.range (n * z.length)).map (z.toArray[· % z.toArray.size]!) := by
 have key : ∀ n, litCells z n = (List.range (n * z.length)).map (fun k => z[k % z.length]!) := by
  intro n
  induction n with
  | zero => simp [litCells]
  | succ n ih =>
   rw [litCells, ih, show (n + 1) * z.length = z.length + n * z.length by rw [Nat.succ_mul, Nat.add_comm], List.range_add, List.map_append, List.map_map]
   congr 1
   ·apply List.ext_getElem
    ·simp
    ·intro i h1 h2
     simp at h2
     simp [Nat.mod_eq_of_lt h2, h2]
   ·apply List.map_congr_left
    intro k _
    simp
 intro n
 rw [key n]
 apply Array.ext'
 simp
include hT in
theorem buildSliceK_run {t n : Nat} {parts : List (Nat × Value)} {w : World} {K : Value → World → Prop} (h : buildSliceK T t n parts w K) :
  ∃ v w', (Instr.buildSlice t n parts.toArray).run P w = .ok v w' ∧ K v w' := by
 unfold buildSliceK at h
 split at h
 case h_2 => exact h.elim
 rename_i i hi
 obtain ⟨_, hix, _, _⟩ := hT.tyOk hi
 split at h
 case h_2 => exact h.elim
 rename_i sz j hidx hj
 obtain ⟨inf, hu, hinf, hsz⟩ := idxOk_slice hix hidx
 split at h
 case h_2 => exact h.elim
 rename_i z hz
 split at h
 case h_2 => exact h.elim
 rename_i hb
 simp only [Bool.and_eq_true] at hb
 have hzl := Nat.eq_of_beq_eq_true hb.1
 have hle := Nat.le_of_ble_eq_true hb.2
 split at h
 case h_2 => exact h.elim
 rename_i cs hcs
 refine ⟨_, _, ?_, h⟩
 obtain ⟨v, hv, hc⟩ := zero_run hT hj hz (w := w)
 by_cases h0 : n * sz = 0
 ·have hl : litCells z n = [] := by
   rcases Nat.mul_eq_zero.1 h0 with h0 | h0
   ·subst h0; rfl
   ·have : z = [] := by cases z with | nil => rfl | cons _ _ => simp at hzl; omega
    subst this
    have key : ∀ n, litCells [] n = [] := by
     intro n
     induction n with
     | zero => rfl
     | succ n ih => simp [litCells, ih]
    exact key n
  rw [hl] at hcs
  have hr0 : (Array.map (fun _ => (default : Value)) (Array.range 0)) = #[] := by apply Array.ext'; simp
  simp [Instr.buildSlice, run_underlying hu, sizeOf, typeInfo, hinf, hsz, h0, newRow, show ¬ (16777216 < 0) by omega]
  rw [hr0, hcs]
  simp
 ·have hne : z ≠ [] := by rintro rfl; simp at hzl; subst hzl; simp at h0
  have hl := litCells_eq z hne n
  rw [hzl] at hl
  rw [hl] at hcs
  have hng' : ¬ (16777216 < n * sz) := by omega
  simp [Instr.buildSlice, run_underlying hu, sizeOf, typeInfo, hinf, hsz, hng', h0, hv, hc, newRow]
  simp at hcs
  simp [hcs]
include hT in
theorem makeK_run {t : Nat} {l c : Value} {w : World} {K : Value → World → Prop} (h : makeK P T t l c w K) :
  ∃ v w', (Instr.makeSlice t l c).run P w = .ok v w' ∧ K v w' := by
 unfold makeK at h
 split at h
 case h_2 => exact h.elim
 rename_i i kl l kc c hi
 obtain ⟨_, hix, _, _⟩ := hT.tyOk hi
 split at h
 case h_2 => exact h.elim
 rename_i sz j hidx hj
 obtain ⟨inf, hu, hinf, hsz⟩ := idxOk_slice hix hidx
 obtain ⟨hsh, _, _, hby⟩ := hT.tyOk hj
 obtain ⟨⟨h0, h1, h2, h3⟩, hK⟩ := h
 have hzz : inf.zero.isSome = true := by
  rcases shOk_cases hsh with ⟨inf', _, _, _, hj', _, _, _, hzz, _⟩ | ⟨inf', _, hj', _, _, hzz, _⟩ | ⟨inf', _, hj', _, _, hzz, _⟩ <;> (rw [hinf] at hj'; cases hj'; exact hzz)
 obtain ⟨z, hz⟩ := Option.isSome_iff_exists.1 hzz
 have hb : inf.bytes = j.bytes := by
  unfold bytesOk at hby
  rw [hinf] at hby
  exact Nat.eq_of_beq_eq_true hby
 have hzc : zeroA P i.elem j = z.cells := by
  have h0 : zeroOf P i.elem = z.cells := by simp [zeroOf, hinf, hz]
  unfold zeroA
  split
  ·rename_i l hl; rw [← hT.zero _ _ _ hj hl, h0]
  ·exact h0
 refine ⟨_, _, run_make (P := P) w t i.elem inf z hu hinf hz kl kc l c h0 h1 (by rw [hb]; exact h2) h3, ?_⟩
 rw [hsz, ← hzc]
 exact hK
include hT in
theorem opV_sound {N : Nat} {a : Act} {e : Env} (hA : Ag N a e) {o : Oper} {K : Value → World → Prop} {w : World} (h : opV P T o e K w) :
  Goes P (execOp a.eval o) K w := by
 unfold opV at h
 split at h
 ·obtain ⟨v, hF, hr⟩ := pureV_sound hT hA h
  exact .inl ⟨v, w, hr w (Cel.refl _), hF⟩
 rename_i hpure
 clear hpure
 obtain ⟨dst, op, type, pos, after, guard⟩ := o
 cases op <;> simp only [effV] at h <;> simp only [execOp]
 case alloc t =>
  split at h
  ·rename_i i hi
   obtain ⟨hsh, _⟩ := hT.tyOk hi
   have hzz : ∃ inf, P.info? t = some inf ∧ inf.zero.isSome = true := by
    rcases shOk_cases hsh with ⟨inf', _, _, _, hj', _, _, _, hzz, _⟩ | ⟨inf', _, hj', _, _, hzz, _⟩ | ⟨inf', _, hj', _, _, hzz, _⟩ <;> exact ⟨_, hj', hzz⟩
   obtain ⟨inf, hinf, hzz⟩ := hzz
   obtain ⟨z, hz⟩ := Option.isSome_iff_exists.1 hzz
   have hzc : zeroA P t i = z.cells := by
    have h0 : zeroOf P t = z.cells := by simp [zeroOf, hinf, hz]
    unfold zeroA
    split
    ·rename_i l hl; rw [← hT.zero _ _ _ hi hl, h0]
    ·exact h0
   rw [hzc] at h
   exact Goes.val ⟨_, _, by simp [Instr.alloc, zeroValue, typeInfo, hinf, hz, newVar, newRow], h⟩
  ·exact h.elim
 case box t x =>
  obtain ⟨v, hx, hK⟩ := ofV_some h
  exact Goes.val ⟨_, _, by simp [ev_eval hA hx, Instr.box, newVar, newRow], hK⟩
 case store t x y =>
  obtain ⟨v, hx, h⟩ := ofV_some h
  obtain ⟨p, rfl, h⟩ := ptrOf_some h
  obtain ⟨u, hy, h⟩ := ofV_some h
  obtain ⟨w', hr, hK⟩ := stK_run hT h
  exact Goes.unit ⟨w', by simp [ev_eval hA hx, ev_eval hA hy, Instr.storeAt, Instr.sureAddr, hr], hK⟩
 case buildSlice t n ps =>
  have h := evps_eval hA h
  have := Goes.val (buildSliceK_run hT h)
  rw [show (ps.map fun x => (x.1, a.eval x.2)) = (ps.toList.map fun (i, x) => (i, a.eval x)).toArray by apply Array.ext'; simp]
  exact this
 case makeSlice t l c =>
  obtain ⟨lv, hl, h⟩ := ofV_some h
  obtain ⟨cv, hc, h⟩ := ofV_some h
  have := Goes.val (makeK_run hT h)
  simpa [ev_eval hA hl, ev_eval hA hc] using this
 case convert s d x =>
  obtain ⟨v, hx, h⟩ := ofV_some h
  have := Goes.runN h
  simpa [ev_eval hA hx] using this
 case index t x i =>
  obtain ⟨v, hx, h⟩ := ofV_some h
  obtain ⟨u, hi, h⟩ := ofV_some h
  have := Goes.runN h
  simpa [ev_eval hA hx, ev_eval hA hi] using this
 case slice t x lo hi mx =>
  obtain ⟨v, hx, h⟩ := ofV_some h
  have ho : ∀ {y : Option Operand} {F : Option Value → Prop}, optV e y F → F (y.map a.eval) := by
   intro y F h
   cases y with
   | none => exact h
   | some y => obtain ⟨u, hy, h⟩ := ofV_some (show ofV (ev e y) _ from h); simpa [ev_eval hA hy] using h
  have := Goes.runN (ho (ho (ho h)))
  simpa [ev_eval hA hx] using this
 case makeFunc f first cap =>
  have h := evs_eval hA (evs_eval hA h)
  rw [amap, amap] at h
  exact Goes.val ⟨_, w, rfl, h⟩
 case makeMap t r =>
  have ho : ∀ {y : Option Operand} {F : Option Value → Prop}, optV e y F → F (y.map a.eval) := by
   intro y F h
   cases y with
   | none => exact h
   | some y => obtain ⟨u, hy, h⟩ := ofV_some (show ofV (ev e y) _ from h); simpa [ev_eval hA hy] using h
  have := Goes.runN (ho h)
  simpa using this
 case lookup t x i ok =>
  obtain ⟨v, hx, h⟩ := ofV_some h
  obtain ⟨u, hi, h⟩ := ofV_some h
  have := Goes.runN h
  simpa [ev_eval hA hx, ev_eval hA hi] using this
 case mapUpdate t m k x =>
  obtain ⟨m', hm, h⟩ := ofV_some h
  obtain ⟨k', hk, h⟩ := ofV_some h
  obtain ⟨x', hx, h⟩ := ofV_some h
  have := Goes.unit h
  simpa [ev_eval hA hm, ev_eval hA hk, ev_eval hA hx] using this
 case insert t m k x =>
  obtain ⟨m', hm, h⟩ := ofV_some h
  obtain ⟨k', hk, h⟩ := ofV_some h
  obtain ⟨x', hx, h⟩ := ofV_some h
  have := Goes.unit h
  simpa [ev_eval hA hm, ev_eval hA hk, ev_eval hA hx] using this
 case mapEntry t m k =>
  obtain ⟨m', hm, h⟩ := ofV_some h
  obtain ⟨k', hk, h⟩ := ofV_some h
  have := Goes.runN h
  simpa [ev_eval hA hm, ev_eval hA hk] using this
 case entryStore t m s x =>
  obtain ⟨m', hm, h⟩ := ofV_some h
  obtain ⟨k', hk, h⟩ := ofV_some h
  obtain ⟨x', hx, h⟩ := ofV_some h
  have := Goes.unit h
  simpa [ev_eval hA hm, ev_eval hA hk, ev_eval hA hx] using this
 case range t x =>
  obtain ⟨v, hx, h⟩ := ofV_some h
  have := Goes.val h
  simpa [ev_eval hA hx] using this
 case next it s =>
  obtain ⟨v, hx, h⟩ := ofV_some h
  have := Goes.val h
  simpa [ev_eval hA hx] using this
 case makeInterface t x =>
  obtain ⟨v, hx, h⟩ := ofV_some h
  have := Goes.val h
  simpa [ev_eval hA hx] using this
 case typeAssert x s a ok =>
  obtain ⟨v, hx, h⟩ := ofV_some h
  have := Goes.val h
  simpa [ev_eval hA hx] using this
 case entry it =>
  obtain ⟨v, hx, h⟩ := ofV_some h
  have := Goes.val h
  simpa [ev_eval hA hx] using this
 case call c =>
  obtain ⟨callee, xs, ts⟩ := c
  cases callee with
  | invoke r m => exact h.elim
  | builtin b =>
   cases b <;> simp only at h
   case append => have := Goes.runN (evs_eval hA h); rw [amap] at this; simpa [resolve, invoke, builtin] using this
   case copy => have := Goes.runN (evs_eval hA h); rw [amap] at this; simpa [resolve, invoke, builtin] using this
   case delete => have := Goes.runN (evs_eval hA h); rw [amap] at this; simpa [resolve, invoke, builtin] using this
   case len => have := Goes.runN (evs_eval hA h); rw [amap] at this; simpa [resolve, invoke, builtin] using this
   case clear => have := Goes.runN (evs_eval hA h); rw [amap] at this; simpa [resolve, invoke, builtin] using this
   all_goals exact h.elim
  | value f =>
   have gen : ∀ {fv : Value}, ev e f = some fv → (match fv with
     | .func (.func g) first cap => evs e xs.toList fun vs => Enters P g ∧ CallV P g (callArgs first.toList vs cap.toList) (rsOf T type) K w
     | _ => False) → Goes P (do let d ← resolve a.eval { callee := .value f, args := xs, argTypes := ts } type; invoke d.target d.args) K w := by
    intro fv hf h
    split at h
    ·rename_i g first cap
     obtain ⟨hen, h⟩ := evs_eval hA h
     refine .inr (.inr ⟨g, _, ?_, h.goes⟩)
     simp only [resolve, ev_eval hA hf, Deferred.ofValue, invoke, Sem.run_bind, Sem.run_pure, Result.andThen_ok]
     rw [hen]
     congr 2
     unfold callArgs
     split
     ·rename_i h1 h2
      have e1 : first = #[] := by apply Array.ext'; simpa using h1
      have e2 : cap = #[] := by apply Array.ext'; simpa using h2
      subst e1; subst e2; apply Array.ext'; simp
     ·apply Array.ext'; simp
    ·exact h.elim
   cases f with
   | func g =>
    simp only at h
    have h := evs_eval hA h
    split at h
    ·rename_i rs hrs
     refine .inr (.inr ⟨g, _, ?_, h.goes⟩)
     simp only [resolve, Act.eval, Deferred.ofValue, invoke, Sem.run_bind, Sem.run_pure, Result.andThen_ok]
     rw [hT.fn g rs hrs]
     congr 2
     apply Array.ext'; simp
    ·obtain ⟨v, w', hr, hK⟩ := ExR_some h
     refine .inl ⟨v, w', ?_, hK⟩
     simp only [resolve, Act.eval, Deferred.ofValue, invoke, Sem.run_bind, Sem.run_pure, Result.andThen_ok]
     rw [← hr]
     congr 2
     apply Array.ext'; simp
   | tmp t => simp only at h; obtain ⟨fv, hf, h⟩ := ofV_some h; exact gen hf h
   | const v => simp only at h; obtain ⟨fv, hf, h⟩ := ofV_some h; exact gen hf h
   | global g => simp only at h; obtain ⟨fv, hf, h⟩ := ofV_some h; exact gen hf h
 all_goals exact h.elim
end
end Go.V
