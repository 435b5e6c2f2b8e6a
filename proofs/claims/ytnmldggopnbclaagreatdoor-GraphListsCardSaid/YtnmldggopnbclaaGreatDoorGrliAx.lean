/- A part of the proof: plain forms of functions and laws about them. -/
import Derived.Test.YtnmldggopnbclaaGreatDoorGrliAw
namespace Go.V
open Go.RowKit (Below)
section
variable {ρ ρ' : Rn} {m m' : AMem} {w w' w0 : World} {P : Program}
def RunT (P : Program) (w0 : World) (ρ : Rn) (m : AMem) (w : World) (s : Sem Value) (u : Value) (m' : AMem) : Prop :=
 ∃ ρ' v w', s.run P w = .ok v w' ∧ Ev w0 ρ m w ρ' m' w' ∧ VR ρ' u v
theorem RunT.n {s : Sem Value} {u : Value} {rs : List Sh} (h : RunT P w0 ρ m w s u m') (hr : isR rs u = true) {K : Value → World → Prop} (k : ∀ ρ' v w', Ev w0 ρ m w ρ' m' w' → VR ρ' u v → K v w') : RunN P s rs K w := by
 obtain ⟨ρ', v, w', h1, h2, h3⟩ := h
 exact isR_ex hr h3 ⟨w', h1, k ρ' v w' h2 h3⟩
def plainD : Value → Bool
 | .agg cs => cs.toList.all plainV
 | v => plainV v
theorem VR.plainD {u : Value} (h : plainD u = true) : VR ρ u u := by
 unfold V.plainD at h
 split at h
 ·rename_i cs
  have := VR.aggL (plainL (ρ := ρ) h)
  simpa using this
 ·exact .plain h
def zeroE (P : Program) (t : Nat) : Option Value :=
 match P.info? t with
 | some i => match i.zero with | some z => (match plainD z with | true => some z | false => none) | none => none
 | none => none
theorem zeroE_ok {t : Nat} {z : Value} (h : zeroE P t = some z) : plainD z = true ∧ ∀ w, (zeroValue t).run P w = .ok z w := by
 unfold zeroE at h
 split at h
 ·rename_i i hi
  split at h
  ·rename_i z' hz
   split at h
   ·rename_i hp; cases h; exact ⟨hp, fun w => by simp [zeroValue, typeInfo, hi, hz]⟩
   ·cases h
  ·cases h
 ·cases h
theorem ba_beq (s t : ByteArray) : (s == t) = (s.data == t.data) := by cases s; cases t; rfl
theorem bytesEq_beq (s t : ByteArray) : bytesEq s.data.toList t.data.toList = (s == t) := by
 rw [ba_beq, Bool.eq_iff_iff, bytesEq_iff, beq_iff_eq]
 constructor
 ·intro h; exact Array.ext' h
 ·intro h; rw [h]
theorem bytesEq_ext {s t : ByteArray} (h : bytesEq s.data.toList t.data.toList = true) : t = s := by
 have := Array.ext' (bytesEq_iff.1 h)
 cases s; cases t; simp only [ByteArray.mk.injEq]; exact this.symm
def kindS : TypeDesc → Value → Bool
 | .int _, .int .. => true
 | .string, .string _ => true
 | .bool, .bool _ => true
 | _, _ => false
def sameE : TypeDesc → Value → Value → Option Bool
 | .int _, .int k a, .int k' b => match decide (k = k') with | true => some (a == b) | false => none
 | .string, .string a, .string b => some (bytesEq a.data.toList b.data.toList)
 | .bool, .bool a, .bool b => some (a == b)
 | _, _, _ => none
theorem sameE_ok {kd : TypeDesc} {a b : Value} {r : Bool} (h : sameE kd a b = some r) : Instr.sameNow kd a b = some r ∧ (r = true → b = a) := by
 unfold sameE at h
 split at h
 ·rename_i kd' k a k' b
  split at h
  ·rename_i hk
   have hk := of_decide_eq_true hk
   subst hk
   cases h
   exact ⟨by simp [Instr.sameNow], fun e => by rw [eq_of_beq e]⟩
  ·cases h
 ·cases h
  refine ⟨?_, fun e => by rw [bytesEq_ext e]⟩
  rw [bytesEq_beq]
  rfl
 ·cases h; exact ⟨rfl, fun e => by rw [eq_of_beq e]⟩
 ·cases h
def findE (kd : TypeDesc) (k : Value) : List (Value × Value) → Nat → Option (Option (Nat × Value))
 | [], _ => some none
 | e :: es, i => match sameE kd k e.1 with
  | some true => some (some (i, e.2))
  | some false => findE kd k es (i + 1)
  | none => none
theorem findE_ok {kd : TypeDesc} {k : Value} : ∀ {es : List (Value × Value)} {ents : List MapEntry} {i : Nat} {r : Option (Nat × Value)}, ents.map (·.key) = es.map (·.1) → LR ρ (es.map (·.2)) (ents.map (·.val)) → findE kd k es i = some r →
  match r with
  | none => Instr.findNow kd k ents i = some none
  | some (j, u) => ∃ v e, Instr.findNow kd k ents i = some (some (j, v)) ∧ VR ρ u v ∧ i ≤ j ∧ ents[j - i]? = some e ∧ e.key = k := by
 intro es
 induction es with
 | nil =>
  intro ents i r h1 h2 h
  cases h
  have : ents = [] := by cases ents <;> simp at h1; rfl
  subst this; rfl
 | cons e es ih =>
  intro ents i r h1 h2 h
  cases ents with
  | nil => simp at h1
  | cons d ds =>
   simp only [List.map_cons, List.cons.injEq] at h1
   obtain ⟨y, ys, e1, r1, r2⟩ := h2.inv_cons
   simp only [List.map_cons, List.cons.injEq] at e1
   unfold findE at h
   split at h
   ·rename_i hs
    cases h
    obtain ⟨h3, h4⟩ := sameE_ok hs
    exact ⟨d.val, d, by rw [Instr.findNow, h1.1, h3], by rw [e1.1]; exact r1, Nat.le_refl _, by simp, by rw [h1.1]; exact h4 rfl⟩
   ·rename_i hs
    obtain ⟨h3, _⟩ := sameE_ok hs
    have e2 : Instr.findNow kd k (d :: ds) i = Instr.findNow kd k ds (i + 1) := by rw [Instr.findNow, h1.1, h3]
    have hh := ih h1.2 (by rw [e1.2]; exact r2) h
    cases r with
    | none => simp only at hh ⊢; rw [e2]; exact hh
    | some p =>
     obtain ⟨v, e3, h5, h6, h7, h8, h9⟩ := hh
     refine ⟨v, e3, by rw [e2]; exact h5, h6, by omega, ?_, h9⟩
     rw [show p.1 - i = (p.1 - (i + 1)) + 1 by omega, List.getElem?_cons_succ]; exact h8
   ·cases h
theorem checkS {kt : TypeId} {kd : TypeDesc} {k : Value} (hu : P.underlying kt = some kd) (h : kindS kd k = true) (e : Bool) (w : World) : (Instr.checkKey e 10000 kt k).run P w = .ok () w := by
 show (Instr.checkKey e (9999 + 1) kt k).run P w = _
 rw [Instr.checkKey]
 cases kd <;> cases k <;> first | (cases h; done) | simp [run_underlying hu]
theorem sameS {kd : TypeDesc} {k : Value} (h : kindS kd k = true) : Instr.sameBits 10000 k k = true := by
 show Instr.sameBits (9999 + 1) k k = true
 cases kd <;> cases k <;> first | (cases h; done) | (simp [Instr.sameBits]; done) | (simp only [Instr.sameBits, ba_beq]; simp)
def esE (m : AMem) : Value → Option (List (Value × Value))
 | .map none => some []
 | .map (some t) => match m.get t with | some (.amap es _ _) => some es | _ => none
 | _ => none
def lookE (P : Program) (t : Nat) (m : AMem) (x k : Value) (ok : Bool) : Option Value :=
 match P.underlying t with
 | some (.map kt et) => match P.underlying kt with
  | some kd => match kindS kd k, esE m x with
   | true, some es => match findE kd k es 0 with
    | some (some (_, v)) => some (match ok with | true => .tuple #[v, .bool true] | false => v)
    | some none => (match zeroE P et with | some z => some (match ok with | true => .tuple #[z, .bool false] | false => z) | none => none)
    | none => none
   | _, _ => none
  | none => none
 | _ => none
theorem tup2 {a b a' b' : Value} (h : VR ρ a a') (k : VR ρ b b') : VR ρ (.tuple #[a, b]) (.tuple #[a', b']) := VR.tupleL (.cons h (.cons k .nil))
theorem lookE_ok {t : Nat} {x x' k k' u : Value} {ok : Bool} (h : lookE P t m x k ok = some u) (rx : VR ρ x x') (rk : VR ρ k k') (hm : Mem w0 ρ m w) : RunT P w0 ρ m w (Instr.lookup t x' k' ok) u m := by
 unfold lookE at h
 split at h
 ·rename_i kt et hu
  split at h
  ·rename_i kd hk
   split at h
   ·rename_i es hks hes
    have ek : k' = k := by
     cases kd <;> cases k <;> first | (cases hks; done) | (cases rk; rfl)
    subst ek
    have hE : ∃ ents : Array MapEntry, ents.toList.map (·.key) = es.map (·.1) ∧ LR ρ (es.map (·.2)) (ents.toList.map (·.val)) ∧ ∀ (v : Value) (b : Bool), (∃ j, (Instr.findKey kt k' ents.toList).run P w = .ok (some (j, v)) w ∧ b = true) ∨ ((Instr.findKey kt k' ents.toList).run P w = .ok none w ∧ (zeroValue et).run P w = .ok v w ∧ b = false) → (Instr.lookup t x' k' ok).run P w = .ok (if ok then .tuple #[v, .bool b] else v) w := by
     unfold esE at hes
     split at hes
     ·cases hes; cases rx
      refine ⟨#[], rfl, .nil, fun v b hr => ?_⟩
      have hr : (∃ j, (Instr.findKey kt k' []).run P w = .ok (some (j, v)) w ∧ b = true) ∨ ((Instr.findKey kt k' []).run P w = .ok none w ∧ (zeroValue et).run P w = .ok v w ∧ b = false) := hr
      rcases hr with ⟨j, hq, hb⟩ | ⟨hq, hz, hb⟩ <;> subst hb
      ·simp [Instr.lookup, run_underlying hu, checkS hk hks, hq]
      ·simp [Instr.lookup, run_underlying hu, checkS hk hks, hq, hz]
     ·split at hes
      ·rename_i tk _ es' bs clock hg
       cases hes
       cases rx
       obtain ⟨_, _, ents, h1, h2, h3, _⟩ := hm.obj tk _ hg rfl
       have hg : (getObj (ρ.blk tk)).run P w = .ok (.map ents clock) w := by simp [getObj, Sem.run, h1]
       refine ⟨ents, h2, h3, fun v b hr => ?_⟩
       rcases hr with ⟨j, hq, hb⟩ | ⟨hq, hz, hb⟩ <;> subst hb
       ·simp [Instr.lookup, run_underlying hu, hg, checkS hk hks, hq]
       ·simp [Instr.lookup, run_underlying hu, hg, checkS hk hks, hq, hz]
      ·cases hes
     ·cases hes
    obtain ⟨ents, h2, h3, hrun⟩ := hE
    have fin : ∀ (v : Value) (b : Bool) (z : Value), VR ρ z v → (match ok with | true => some (Value.tuple #[z, .bool b]) | false => some z) = some u → (∃ j, (Instr.findKey kt k' ents.toList).run P w = .ok (some (j, v)) w ∧ b = true) ∨ ((Instr.findKey kt k' ents.toList).run P w = .ok none w ∧ (zeroValue et).run P w = .ok v w ∧ b = false) → RunT P w0 ρ m w (Instr.lookup t x' k' ok) u m := by
     intro v b z hz hu2 hr
     refine ⟨ρ, if ok then .tuple #[v, .bool b] else v, w, hrun v b hr, Ev.refl hm, ?_⟩
     cases ok <;> cases hu2
     ·exact hz
     ·exact tup2 hz (.bool b)
    split at h
    ·rename_i j v hf
     obtain ⟨v', e, f1, f2, _⟩ := findE_ok h2 h3 hf
     exact fin v' true v f2 (by cases ok <;> exact h) (.inl ⟨j, by simp [Instr.findKey, run_underlying hk, f1], rfl⟩)
    ·rename_i hf
     have f1 := findE_ok h2 h3 hf
     split at h
     ·rename_i z hz
      obtain ⟨z1, z2⟩ := zeroE_ok hz
      simp only at f1
      exact fin z false z (.plainD z1) (by cases ok <;> exact h) (.inr ⟨by simp [Instr.findKey, run_underlying hk, f1], z2 w, rfl⟩)
     ·cases h
    ·cases h
   ·cases h
  ·cases h
 ·cases h
def updE (P : Program) (t : Nat) (m : AMem) (x k v : Value) : Option AMem :=
 match P.underlying t, x with
 | some (.map kt _), .map (some r) => match P.underlying kt, m.get r with
  | some kd, some (.amap es bs clock) => match kindS kd k with
   | true => match findE kd k es 0 with
    | some (some (j, _)) => some (m.put r (.amap (es.set j (k, v)) bs clock))
    | some none => some (m.put r (.amap (es ++ [(k, v)]) (bs ++ [clock]) (clock + 1)))
    | none => none
   | false => none
  | _, _ => none
 | _, _ => none
theorem LR.set {xs ys : List Value} (h : LR ρ xs ys) (i : Nat) {u v : Value} (r : VR ρ u v) : LR ρ (xs.set i u) (ys.set i v) := by
 have := setR (cs := xs.toArray) (ds := ys.toArray) (by simpa using h) i r
 simpa using this
theorem LR.app {xs ys xs' ys' : List Value} (h : LR ρ xs xs') (k : LR ρ ys ys') : LR ρ (xs ++ ys) (xs' ++ ys') := ⟨by simp [h.len, k.len], fun i u v p q => by
 rcases Nat.lt_or_ge i xs.length with hi | hi
 ·rw [List.getElem?_append_left hi] at p
  rw [List.getElem?_append_left (by rw [← h.len]; exact hi)] at q
  exact h.at_ i u v p q
 ·rw [List.getElem?_append_right hi] at p
  rw [List.getElem?_append_right (by rw [← h.len]; exact hi), ← h.len] at q
  exact k.at_ _ u v p q⟩
theorem updE_ok {t : Nat} {x x' k k' v v' : Value} (h : updE P t m x k v = some m') (rx : VR ρ x x') (rk : VR ρ k k') (rv : VR ρ v v') (hm : Mem w0 ρ m w) :
  ∃ w', (Instr.mapUpdate t x' k' v').run P w = .ok () w' ∧ Ev w0 ρ m w ρ m' w' := by
 unfold updE at h
 split at h
 ·rename_i kt et r hu
  cases rx
  split at h
  ·rename_i kd es bs clock hk hg
   split at h
   ·rename_i hks
    have ek : k' = k := by
     cases kd <;> cases k <;> first | (cases hks; done) | (cases rk; rfl)
    subst ek
    obtain ⟨hb, _, ents, h1, h2, h3, h4⟩ := hm.obj r _ hg rfl
    have hg1 : (getObj (ρ.blk r)).run P w = .ok (.map ents clock) w := by simp [getObj, Sem.run, h1]
    split at h
    ·rename_i j u hf
     cases h
     obtain ⟨v0, e, f1, f2, _, f3, f4⟩ := findE_ok h2 h3 hf
     rw [Nat.sub_zero] at f3
     have he : ents[j]? = some e := by rw [← Array.getElem?_toList]; exact f3
     have hkey : (((ents[j]?).map (·.key)).getD k') = k' := by rw [he]; exact f4
     have hstay : (Instr.keyThatStays k' k').run P w = .ok k' w := by simp [Instr.keyThatStays, sameS hks]
     refine ⟨_, ?_, hm.put hg rfl (setObj_but w _ _) fun _ => ⟨ents.modify j fun e => { e with key := k', val := v' }, setObj_heap h1, ?_, ?_, ?_⟩⟩
     ·simp only [Option.map_some, Instr.mapUpdate, Sem.run_bind, run_underlying hu, Result.andThen_ok, hg1, checkS hk hks]
      have : (Instr.findKey kt k' ents.toList).run P w = .ok (some (j, v0)) w := by simp [Instr.findKey, run_underlying hk, f1]
      simp only [this, Result.andThen_ok, Sem.run_bind, hkey, hstay, setObj_run h1]
     ·rw [List.map_set]
      apply List.ext_getElem?; intro i
      rw [List.getElem?_map, Array.getElem?_toList, Array.getElem?_modify, List.getElem?_set, ← h2, List.getElem?_map, Array.getElem?_toList]
      by_cases hij : j = i
      ·subst hij
       have hjl := (Array.getElem?_eq_some_iff.1 he).1
       rw [if_pos rfl, if_pos rfl, if_pos (by simpa using hjl), he]; rfl
      ·rw [if_neg hij, if_neg hij]
     ·rw [List.map_set]
      have e2 : (ents.modify j fun e => { e with key := k', val := v' }).toList.map (·.val) = (ents.toList.map (·.val)).set j v' := by
       apply List.ext_getElem?; intro i
       rw [List.getElem?_map, Array.getElem?_toList, Array.getElem?_modify, List.getElem?_set, List.getElem?_map, Array.getElem?_toList]
       by_cases hij : j = i
       ·subst hij
        have hjl := (Array.getElem?_eq_some_iff.1 he).1
        rw [if_pos rfl, if_pos rfl, if_pos (by simpa using hjl), he]; rfl
       ·rw [if_neg hij, if_neg hij]
      rw [e2]
      exact h3.set j rv
     ·have e2 : (ents.modify j fun e => { e with key := k', val := v' }).toList.map (·.born) = ents.toList.map (·.born) := by
       apply List.ext_getElem?; intro i
       rw [List.getElem?_map, Array.getElem?_toList, Array.getElem?_modify, List.getElem?_map, Array.getElem?_toList]
       by_cases hij : j = i
       ·subst hij; rw [if_pos rfl, he]; rfl
       ·rw [if_neg hij]
      rw [e2]; exact h4
    ·rename_i hf
     cases h
     have f1 := findE_ok h2 h3 hf
     simp only at f1
     refine ⟨_, ?_, hm.put hg rfl (setObj_but w _ _) fun _ => ⟨ents.push ⟨k', v', clock⟩, setObj_heap h1, ?_, ?_, ?_⟩⟩
     ·simp only [Option.map_some, Instr.mapUpdate, Sem.run_bind, run_underlying hu, Result.andThen_ok, hg1, checkS hk hks]
      have : (Instr.findKey kt k' ents.toList).run P w = .ok none w := by simp [Instr.findKey, run_underlying hk, f1]
      simp only [this, Result.andThen_ok, setObj_run h1]
     ·simp [h2]
     ·simp only [List.map_append, Array.toList_push, List.map_cons, List.map_nil]
      exact h3.app (.cons rv .nil)
     ·simp [h4]
    ·cases h
   ·cases h
  ·cases h
 ·cases h
def delE (P : Program) (t : Nat) (m : AMem) (x k : Value) : Option AMem :=
 match P.underlying t, x with
 | some (.map kt _), .map (some r) => match P.underlying kt, m.get r with
  | some kd, some (.amap es bs clock) => match kindS kd k with
   | true => match findE kd k es 0 with
    | some (some (j, _)) => some (m.put r (.amap (es.eraseIdx j) (bs.eraseIdx j) clock))
    | some none => some (m.put r (.amap es bs clock))
    | none => none
   | false => none
  | _, _ => none
 | _, _ => none
theorem LR.erase {xs ys : List Value} (h : LR ρ xs ys) (i : Nat) : LR ρ (xs.eraseIdx i) (ys.eraseIdx i) := by
 refine ⟨by simp [List.length_eraseIdx, h.len], fun j u v p q => ?_⟩
 rw [List.getElem?_eraseIdx] at p q
 split at p
 ·rename_i c; rw [if_pos c] at q; exact h.at_ _ u v p q
 ·rename_i c; rw [if_neg c] at q; exact h.at_ _ u v p q
theorem map_eraseIdx {α β : Type} (l : List α) (f : α → β) (i : Nat) : (l.eraseIdx i).map f = (l.map f).eraseIdx i := by
 induction l generalizing i with
 | nil => simp
 | cons x xs ih => cases i with
  | zero => simp
  | succ i => simp [ih]
theorem delE_ok {t tk ty : Nat} {x x' k k' : Value} (h : delE P t m x k = some m') (rx : VR ρ x x') (rk : VR ρ k k') (hm : Mem w0 ρ m w) :
  RunT P w0 ρ m w (Builtin.delete_ #[t, tk] ty #[x', k']) (.tuple #[]) m' := by
 unfold delE at h
 split at h
 ·rename_i kt et r hu
  cases rx
  split at h
  ·rename_i kd es bs clock hk hg
   split at h
   ·rename_i hks
    have ek : k' = k := by
     cases kd <;> cases k <;> first | (cases hks; done) | (cases rk; rfl)
    subst ek
    obtain ⟨hb, _, ents, h1, h2, h3, h4⟩ := hm.obj r _ hg rfl
    have hg1 : (getObj (ρ.blk r)).run P w = .ok (.map ents clock) w := by simp [getObj, Sem.run, h1]
    split at h
    ·rename_i j u hf
     cases h
     obtain ⟨v0, e, f1, f2, _, f3, f4⟩ := findE_ok h2 h3 hf
     rw [Nat.sub_zero] at f3
     have hjl : j < ents.size := by have := (List.getElem?_eq_some_iff.1 f3).1; simpa using this
     have e0 : (ents.eraseIdxIfInBounds j).toList = ents.toList.eraseIdx j := by simp [Array.eraseIdxIfInBounds, hjl]
     refine ⟨ρ, .tuple #[], _, ?_, hm.put hg rfl (setObj_but w _ _) fun _ => ⟨ents.eraseIdxIfInBounds j, setObj_heap h1, ?_, ?_, ?_⟩, .tuple _ _ rfl (fun i u v h => by simp at h)⟩
     ·have : (Instr.findKey kt k' ents.toList).run P w = .ok (some (j, v0)) w := by simp [Instr.findKey, run_underlying hk, f1]
      simp [Builtin.delete_, run_underlying hu, hg1, checkS hk hks, this, setObj_run h1]
     ·rw [e0, map_eraseIdx, map_eraseIdx, h2]
     ·rw [e0, map_eraseIdx, map_eraseIdx]; exact h3.erase j
     ·rw [e0, map_eraseIdx, h4]
    ·rename_i hf
     cases h
     have f1 := findE_ok h2 h3 hf
     simp only at f1
     refine ⟨ρ, .tuple #[], _, ?_, hm.put hg rfl (setObj_but w _ _) fun _ => ⟨ents, setObj_heap h1, h2, h3, h4⟩, .tuple _ _ rfl (fun i u v h => by simp at h)⟩
     have : (Instr.findKey kt k' ents.toList).run P w = .ok none w := by simp [Instr.findKey, run_underlying hk, f1]
     simp [Builtin.delete_, run_underlying hu, hg1, checkS hk hks, this, setObj_run h1]
    ·cases h
   ·cases h
  ·cases h
 ·cases h
def mkMapE (P : Program) (t : Nat) (r : Option Value) (m : AMem) : Option (Value × AMem) :=
 match r with
 | none => some (.map (some m.next), m.fresh none (.amap [] [] 0))
 | some (.int _ _) => match P.underlying t with | some (.map _ _) => some (.map (some m.next), m.fresh none (.amap [] [] 0)) | _ => none
 | _ => none
theorem mkMapE_ok {t : Nat} {r r' : Option Value} {u : Value} (h : mkMapE P t r m = some (u, m')) (rr : OR ρ r r') (hm : Mem w0 ρ m w) : RunT P w0 ρ m w (Instr.makeMap t r') u m' := by
 have hx : Ext w (w.alloc (.map #[] 0)) := (Below.refl _ _).alloc (Nat.le_refl _) _
 have hg : (w.alloc (.map #[] 0)).heap[w.heap.size]? = some (.map #[] 0) := heap_alloc_new w _
 have ev := hm.fresh (kill := none) (o' := .amap [] [] 0) (b := w.heap.size) (off := 0) (cap := 0) (fun t0 e => by cases e) (Below.trans hm.x (hx.mono hm.x.size)) hx.size (fun kk hk _ => hx.block kk hk) (Array.getElem?_eq_some_iff.1 hg).1 (.inl (Nat.le_refl _)) rfl fun le => ⟨#[], by simpa [Rn.more] using hg, rfl, .nil, rfl⟩
 have fin : ∀ s : Sem Value, s.run P w = .ok (.map (some w.heap.size)) (w.alloc (.map #[] 0)) → RunT P w0 ρ m w s (.map (some m.next)) (m.fresh none (.amap [] [] 0)) := fun s hs => by
  refine ⟨_, .map (some w.heap.size), _, hs, ev, ?_⟩
  have := VR.map (ρ := ρ.more m.next w.heap.size 0 (symI + m.caps) 0) (some m.next) fun t e => by cases e; exact .inr rfl
  simpa [Rn.more] using this
 unfold mkMapE at h
 split at h
 ·cases r' with
  | some _ => exact rr.elim
  | none =>
   cases h
   exact fin _ (by simp [Instr.makeMap])
 ·rename_i k n
  cases r' with
  | none => exact rr.elim
  | some v =>
   have rr : VR ρ (.int k n) v := rr
   cases rr
   split at h
   ·rename_i a b hu
    cases h
    exact fin _ (by simp [Instr.makeMap, run_underlying hu, asInt, asIntOf])
   ·cases h
 ·cases h
def lenMapE (P : Program) (t : Nat) (m : AMem) (x : Value) : Option Value :=
 match P.underlying t, esE m x with
 | some (.map _ _), some es => some (.int .i64 (es.length : Nat))
 | _, _ => none
theorem lenMapE_ok {t ty : Nat} {x x' u : Value} (h : lenMapE P t m x = some u) (rx : VR ρ x x') (hm : Mem w0 ρ m w) : RunT P w0 ρ m w (Builtin.len_ #[t] ty #[x']) u m := by
 unfold lenMapE at h
 split at h
 ·rename_i kt et es hu hes
  cases h
  unfold esE at hes
  split at hes
  ·cases hes; cases rx
   exact ⟨ρ, _, w, by simp [Builtin.len_, run_underlying hu, goInt], Ev.refl hm, .int _ _⟩
  ·split at hes
   ·rename_i tk _ es' bs clock hg
    cases hes
    cases rx
    obtain ⟨_, _, ents, h1, h2, _⟩ := hm.obj tk _ hg rfl
    have hg : (getObj (ρ.blk tk)).run P w = .ok (.map ents clock) w := by simp [getObj, Sem.run, h1]
    have hl : ents.size = es.length := by have := congrArg List.length h2; simpa using this
    exact ⟨ρ, _, w, by simp [Builtin.len_, run_underlying hu, goInt, hg, hl], Ev.refl hm, .int _ _⟩
   ·cases hes
  ·cases hes
 ·cases h
end
end Go.V
