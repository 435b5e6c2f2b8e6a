/- A part of the proof: plain forms of functions and laws about them. -/
import Derived.Test.YtnmldggopnbclaaGreatDoorGrliAx
namespace Go.V
open Go.RowKit (Below)
/-! ### Maps -/
def eStr (s : ByteArray) : Value := .string s
theorem sameNow_str (a b : ByteArray) : Instr.sameNow .string (.string a) (.string b) = some (a == b) := rfl
theorem ba_eq {s t : ByteArray} : (s == t) = true ↔ s = t := by
 rw [← bytesEq_beq]
 exact ⟨fun h => (bytesEq_ext h).symm, fun h => by rw [h, bytesEq_iff]⟩
theorem findNow_str (a : ByteArray) : ∀ (es : List MapEntry) (ks : List ByteArray) (i : Nat), es.map (·.key) = ks.map eStr → Instr.findNow .string (eStr a) es i = some ((ixOf ks a i).bind fun j => (es[j - i]?).map fun e => (j, e.val))
 | [], ks, i, h => by
  have : ks = [] := by cases ks <;> simp at h; rfl
  subst this; rfl
 | e :: es, [], i, h => by simp at h
 | e :: es, b :: ks, i, h => by
  simp only [List.map_cons, List.cons.injEq] at h
  have ih := findNow_str a es ks (i + 1) h.2
  rw [Instr.findNow, h.1, eStr, eStr, sameNow_str]
  by_cases hak : a = b
  ·subst hak
   rw [ba_eq.2 rfl]; simp [ixOf]
  ·have hs : (a == b) = false := by rw [Bool.eq_false_iff]; exact fun e => hak (ba_eq.1 e)
   rw [hs]
   show Instr.findNow .string (eStr a) es (i + 1) = _
   simp only [ih, ixOf, hak, if_false]
   cases hj : ixOf ks a (i + 1) with
   | none => rfl
   | some j =>
    have := (ixOf_some hj).1
    simp only [Option.bind_some]
    rw [show j - i = (j - (i + 1)) + 1 by omega, List.getElem?_cons_succ]
theorem keyStr {P : Program} {kt : TypeId} (hu : P.underlying kt = some .string) : KeyOk P kt eStr where
 chk e a w := checkS hu rfl e w
 find es ks a w h := by
  have := findNow_str a es ks 0 h
  simp only [Instr.findKey, Sem.run_bind, run_underlying hu, Result.andThen_ok, this, Sem.run_pure, Nat.sub_zero]
 same a := sameS (kd := .string) (k := .string a) rfl
section
variable {K V : Type} [DecidableEq K] {P : Program} {t kt et : TypeId} {enc : K → Value} {encV : V → Value} {z : V} {w w' : World} {r : Nat} {m : List (K × V)} {bs : List Nat} {c : Nat}
theorem MapO.lt (h : MapO enc encV w r m bs c) : r < w.heap.size := by
 obtain ⟨⟨es, h1, _⟩, _⟩ := h; exact (Array.getElem?_eq_some_iff.1 h1).1
theorem MapO.look2 (T : MapT P t kt et enc encV z) (h : MapO enc encV w r m bs c) (a : K) : ∃ v ok, Sem.run P (Instr.lookup t (.map (some r)) (enc a) true) w = .ok (.tuple #[encV v, .bool ok]) w ∧
  ((lget m a = some v ∧ ok = true) ∨ (a ∉ m.map (·.1) ∧ v = z ∧ ok = false)) := by
 obtain ⟨⟨es, h1, hs⟩, hn, hb, ho⟩ := h
 have hg : (getObj r).run P w = .ok (.map es c) w := by simp [getObj, Sem.run, h1]
 rcases found T.key hs hn a w with ⟨i, e, u, hi, he, hek, hev, hl, hbi, hilt, hfind⟩ | ⟨hna, hl, hfind⟩
 ·exact ⟨u, true, by simp [Instr.lookup, run_underlying T.und, hg, T.key.chk, hfind], .inl ⟨hl, rfl⟩⟩
 ·exact ⟨z, false, by simp [Instr.lookup, run_underlying T.und, hg, T.key.chk, hfind, T.zer], .inr ⟨hna, rfl, rfl⟩⟩
theorem MapO.look1 (T : MapT P t kt et enc encV z) (h : MapO enc encV w r m bs c) (a : K) : ∃ v, Sem.run P (Instr.lookup t (.map (some r)) (enc a) false) w = .ok (encV v) w ∧
  (lget m a = some v ∨ (a ∉ m.map (·.1) ∧ v = z)) := by
 obtain ⟨⟨es, h1, hs⟩, hn, hb, ho⟩ := h
 have hg : (getObj r).run P w = .ok (.map es c) w := by simp [getObj, Sem.run, h1]
 rcases found T.key hs hn a w with ⟨i, e, u, hi, he, hek, hev, hl, hbi, hilt, hfind⟩ | ⟨hna, hl, hfind⟩
 ·exact ⟨u, by simp [Instr.lookup, run_underlying T.und, hg, T.key.chk, hfind], .inl hl⟩
 ·exact ⟨z, by simp [Instr.lookup, run_underlying T.und, hg, T.key.chk, hfind, T.zer], .inr ⟨hna, rfl⟩⟩
theorem MapO.len (T : MapT P t kt et enc encV z) (ty : TypeId) (h : MapO enc encV w r m bs c) : Sem.run P (Builtin.len_ #[t] ty #[.map (some r)]) w = .ok (.int .i64 (m.length : Int)) w := by
 obtain ⟨⟨es, h1, hs⟩, hn, hb, ho⟩ := h
 have hg : (getObj r).run P w = .ok (.map es c) w := by simp [getObj, Sem.run, h1]
 have hl : es.size = m.length := by have := congrArg List.length hs.1; simpa using this
 simp [Builtin.len_, run_underlying T.und, hg, hl, goInt]
theorem MapO.add (T : MapT P t kt et enc encV z) (h : MapO enc encV w r m bs c) {a : K} (v : V) (ha : a ∉ m.map (·.1)) :
  ∃ w', Sem.run P (Instr.mapUpdate t (.map (some r)) (enc a) (encV v)) w = .ok () w' ∧ MapO enc encV w' r (m ++ [(a, v)]) (bs ++ [c]) (c + 1) ∧ But r w w' := by
 obtain ⟨⟨es, h1, hs⟩, hn, hb, ho⟩ := h
 have hg : (getObj r).run P w = .ok (.map es c) w := by simp [getObj, Sem.run, h1]
 rcases found T.key hs hn a w with ⟨i, e, u, hi, he, hek, hev, hl, hbi, hilt, hfind⟩ | ⟨hna, hl, hfind⟩
 ·exact absurd (List.mem_of_getElem? (ix_lt hi)) ha
 ·refine ⟨_, ?_, MapO.pushed hs hn hb ho hna (setObj_heap h1), setObj_but _ _ _⟩
  simp only [Instr.mapUpdate, Sem.run_bind, run_underlying T.und, Result.andThen_ok, hg, T.key.chk, hfind]
  rw [setObj_run h1]
theorem MapO.new (enc : K → Value) (encV : V → Value) (w : World) : ∃ w', Sem.run P (Instr.makeMap t none) w = .ok (.map (some w.heap.size)) w' ∧ MapO enc encV w' w.heap.size [] [] 0 ∧ Ext w w' := by
 refine ⟨w.alloc (.map #[] 0), ?_, ⟨⟨#[], heap_alloc_new w _, rfl, rfl, rfl⟩, by simp, by simp, by simp⟩, (Below.refl _ _).alloc (Nat.le_refl _) _⟩
 simp [Instr.makeMap, newObj, Sem.run]
end
def numL {K : Type} : List K → Int → List (K × Int)
 | [], _ => []
 | k :: ks, b => (k, b) :: numL ks (b + 1)
theorem numL_keys {K : Type} : ∀ (ks : List K) (b : Int), (numL ks b).map (·.1) = ks
 | [], _ => rfl
 | k :: ks, b => by rw [numL, List.map_cons, numL_keys ks]
theorem numL_len {K : Type} (ks : List K) (b : Int) : (numL ks b).length = ks.length := by
 have := congrArg List.length (numL_keys ks b); simpa using this
theorem numL_snoc {K : Type} (a : K) : ∀ (ks : List K) (b : Int), numL (ks ++ [a]) b = numL ks b ++ [(a, b + (ks.length : Nat))]
 | [], b => by simp [numL]
 | k :: ks, b => by
  rw [List.cons_append, numL, numL_snoc a ks, numL, List.cons_append]
  congr 3
  simp only [List.length_cons, Prod.mk.injEq, true_and]; omega
theorem numL_get {K : Type} [DecidableEq K] {a : K} {v : Int} : ∀ {ks : List K} {b : Int}, lget (numL ks b) a = some v → ∃ i : Nat, ks[i]? = some a ∧ v = b + i
 | [], b, h => by simp [numL, lget] at h
 | k :: ks, b, h => by
  rw [numL, lget] at h
  split at h
  ·rename_i e; subst e; cases h; exact ⟨0, rfl, by simp⟩
  ·obtain ⟨i, h1, h2⟩ := numL_get h
   exact ⟨i + 1, by simpa using h1, by omega⟩
def NumM {K : Type} [DecidableEq K] (enc : K → Value) (w : World) (r : Nat) (ks : List K) (base : Int) : Prop := ∃ bs c, MapO enc eK w r (numL ks base) bs c
section
variable {K : Type} [DecidableEq K] {P : Program} {t kt et : TypeId} {enc : K → Value} {w w' : World} {r : Nat} {ks : List K} {base : Int}
theorem NumM.nodup (h : NumM enc w r ks base) : ks.Nodup := by
 obtain ⟨bs, c, h⟩ := h; have := h.nodup; rwa [numL_keys] at this
theorem NumM.lt (h : NumM enc w r ks base) : r < w.heap.size := by obtain ⟨bs, c, h⟩ := h; exact h.lt
theorem NumM.heap (h : NumM enc w r ks base) (k : w'.heap[r]? = w.heap[r]?) : NumM enc w' r ks base := by obtain ⟨bs, c, h⟩ := h; exact ⟨bs, c, h.heap k⟩
theorem NumM.ext (h : NumM enc w r ks base) (k : Ext w w') : NumM enc w' r ks base := h.heap (k.block r h.lt)
theorem NumM.look2 (T : MapT P t kt et enc eK 0) (h : NumM enc w r ks base) (a : K) : ∃ v ok, Sem.run P (Instr.lookup t (.map (some r)) (enc a) true) w = .ok (.tuple #[.int .i64 v, .bool ok]) w ∧
  ((∃ i : Nat, ks[i]? = some a ∧ v = base + i ∧ ok = true) ∨ (a ∉ ks ∧ v = 0 ∧ ok = false)) := by
 obtain ⟨bs, c, h⟩ := h
 obtain ⟨v, ok, h1, h2⟩ := h.look2 T a
 refine ⟨v, ok, h1, ?_⟩
 rw [numL_keys] at h2
 rcases h2 with ⟨h2, h3⟩ | h2
 ·obtain ⟨i, h4, h5⟩ := numL_get h2; exact .inl ⟨i, h4, h5, h3⟩
 ·exact .inr h2
theorem NumM.look1 (T : MapT P t kt et enc eK 0) (h : NumM enc w r ks base) (a : K) : ∃ v, Sem.run P (Instr.lookup t (.map (some r)) (enc a) false) w = .ok (.int .i64 v) w ∧
  ((∃ i : Nat, ks[i]? = some a ∧ v = base + i) ∨ (a ∉ ks ∧ v = 0)) := by
 obtain ⟨bs, c, h⟩ := h
 obtain ⟨v, h1, h2⟩ := h.look1 T a
 refine ⟨v, h1, ?_⟩
 rw [numL_keys] at h2
 rcases h2 with h2 | h2
 ·obtain ⟨i, h4, h5⟩ := numL_get h2; exact .inl ⟨i, h4, h5⟩
 ·exact .inr h2
theorem NumM.len (T : MapT P t kt et enc eK 0) (ty : TypeId) (h : NumM enc w r ks base) : Sem.run P (Builtin.len_ #[t] ty #[.map (some r)]) w = .ok (.int .i64 (ks.length : Int)) w := by
 obtain ⟨bs, c, h⟩ := h
 rw [h.len T ty, numL_len]
theorem NumM.add (T : MapT P t kt et enc eK 0) (h : NumM enc w r ks base) {a : K} {v : Int} (hv : v = base + (ks.length : Nat)) (ha : a ∉ ks) :
  ∃ w', Sem.run P (Instr.mapUpdate t (.map (some r)) (enc a) (.int .i64 v)) w = .ok () w' ∧ NumM enc w' r (ks ++ [a]) base ∧ But r w w' := by
 obtain ⟨bs, c, h⟩ := h
 obtain ⟨w', h1, h2, h3⟩ := h.add T v (a := a) (by rw [numL_keys]; exact ha)
 exact ⟨w', h1, ⟨_, _, by rw [numL_snoc, ← hv]; exact h2⟩, h3⟩
theorem NumM.new (enc : K → Value) (w : World) (base : Int) : ∃ w', Sem.run P (Instr.makeMap t none) w = .ok (.map (some w.heap.size)) w' ∧ NumM enc w' w.heap.size [] base ∧ Ext w w' := by
 obtain ⟨w', h1, h2, h3⟩ := MapO.new (P := P) (t := t) enc eK w
 exact ⟨w', h1, ⟨_, _, h2⟩, h3⟩
end
/-! ### Own memory by role -/
structure Mine {ρ : Type} (own : OwnM ρ) (w0 w : World) : Prop where
 fr : Fr (fun _ => none) own w0 w
 top : ∀ k, w.heap.size ≤ k → own k = none
section
variable {ρ : Type} {own own' : OwnM ρ} {r : ρ} {w0 w w' : World}
theorem Mine.refl (w : World) : Mine (fun _ => (none : Option ρ)) w w := ⟨Fr.refl _ _, fun _ _ => rfl⟩
theorem Mine.ext (h : Mine own w0 w) (x : Ext w w') : Mine own w0 w' := ⟨h.fr.trans (Fr.of_ext _ x), fun k hk => h.top k (Nat.le_trans x.size hk)⟩
theorem Mine.upd (h : Mine own w0 w) (u : Upd own own' r w w') : Mine own' w0 w' := ⟨h.fr.trans u.fr, u.top h.top⟩
theorem Mine.below (h : Mine own w0 w) : Ext w0 w := ⟨h.fr.os, h.fr.tape, h.fr.output, h.fr.size, fun k hk => h.fr.block k hk rfl⟩
theorem Upd.fresh {b : Nat} (x : Ext w w') (hb : w.heap.size ≤ b) (hb' : b < w'.heap.size) (r : ρ) : Upd own (setOwn own (some b) r) r w w' :=
 ⟨x.os, x.tape, x.output, x.size, fun k hk _ => x.block k hk, fun k hk => by unfold setOwn; rw [if_neg]; intro e; cases e; omega,
  fun ht k hk => by unfold setOwn; rw [if_neg (by intro e; cases e; omega)]; exact ht k (Nat.le_trans x.size hk)⟩
theorem Upd.none (x : Ext w w') (r : ρ) : Upd own own r w w' := ⟨x.os, x.tape, x.output, x.size, fun k hk _ => x.block k hk, fun _ _ => rfl, fun ht k hk => ht k (Nat.le_trans x.size hk)⟩
theorem RowR.adopt {α : Type} {e : TypeId} {sz base : Nat} {enc : α → List Value} {s : SL} {xs : List α} (h : OwnR base e sz enc w' s.1 s.2.1 s.2.2 xs) (hb : w.heap.size ≤ base) (x : Ext w w') (own : OwnM ρ) (r : ρ) :
  RowR (setOwn own (sblk s) r) r e sz enc w' s xs ∧ Upd own (setOwn own (sblk s) r) r w w' := by
 refine ⟨⟨⟨h.1, h.2.1, h.2.2.imp id fun ⟨g, cap, cur, h1, _, h2⟩ => ⟨g, cap, cur, h1, Nat.zero_le _, h2⟩⟩, fun k hk => by unfold setOwn; rw [if_pos hk]⟩, ?_⟩
 cases hs : sblk s with
 | none =>
  have : setOwn own none r = own := by funext k; unfold setOwn; rw [if_neg (by intro e; cases e)]
  rw [this]; exact Upd.none x r
 | some b =>
  have := h.lt b hs
  exact Upd.fresh x (by omega) this.2 r
structure Bx (own : OwnM ρ) (r : ρ) (w : World) (b : Nat) (cs : Array Value) (t : TypeId) : Prop where
 blk : Blk w b cs t
 own : own b = some r
theorem Bx.ext {b t : Nat} {cs : Array Value} (h : Bx own r w b cs t) (x : Ext w w') : Bx own r w' b cs t := ⟨h.blk.ext x, h.own⟩
theorem Bx.upd {r2 : ρ} {b t : Nat} {cs : Array Value} (h : Bx own r2 w b cs t) (u : Upd own own' r w w') (hne : r2 ≠ r) : Bx own' r2 w' b cs t := ⟨h.blk.upd h.own u hne, by rw [u.same b h.blk.lt]; exact h.own⟩
theorem Bx.set {b t i : Nat} {cs : Array Value} {v : Value} (h : Bx own r w b cs t) (hi : i < cs.size) {F : World → Prop} (k : ∀ w', Bx own r w' b (cs.setIfInBounds i v) t → Upd own own r w w' → F w') : SetK w ⟨b, i, none⟩ v F :=
 SetK.mk h.blk hi fun w' h1 h2 => k w' ⟨h1, h.own⟩ (Upd.of_but h2 h.own)
theorem Bx.new {cs : Array Value} {t : TypeId} (own : OwnM ρ) (r : ρ) {K : Addr → World → Prop} (h : ∀ (b : Nat) (w' : World), Bx (setOwn own (some b) r) r w' b cs t → Upd own (setOwn own (some b) r) r w w' → Ext w w' → b = w.heap.size → K ⟨b, 0, none⟩ w') : AllocK w cs t K :=
 AllocK.mk fun b w' hb hB x => h b w' ⟨hB, by unfold setOwn; rw [if_pos rfl]⟩ (Upd.fresh x (by omega) hB.lt r) x hb
structure Mx {K : Type} [DecidableEq K] (own : OwnM ρ) (r : ρ) (enc : K → Value) (w : World) (b : Nat) (ks : List K) (base : Int) : Prop where
 num : NumM enc w b ks base
 own : own b = some r
section
variable {K : Type} [DecidableEq K] {enc : K → Value} {b : Nat} {ks : List K} {base : Int}
theorem Mx.ext (h : Mx own r enc w b ks base) (x : Ext w w') : Mx own r enc w' b ks base := ⟨h.num.ext x, h.own⟩
theorem Mx.upd {r2 : ρ} (h : Mx own r2 enc w b ks base) (u : Upd own own' r w w') (hne : r2 ≠ r) : Mx own' r2 enc w' b ks base := ⟨h.num.heap (u.block b h.num.lt (by rw [h.own]; simpa using hne)), by rw [u.same b h.num.lt]; exact h.own⟩
theorem Mx.add {P : Program} {t kt et : TypeId} (T : MapT P t kt et enc eK 0) (h : Mx own r enc w b ks base) {a : K} {v : Int} (hv : v = base + (ks.length : Nat)) (ha : a ∉ ks) :
  ∃ w', Sem.run P (Instr.mapUpdate t (.map (some b)) (enc a) (.int .i64 v)) w = .ok () w' ∧ Mx own r enc w' b (ks ++ [a]) base ∧ Upd own own r w w' := by
 obtain ⟨w', h1, h2, h3⟩ := h.num.add T hv ha
 exact ⟨w', h1, ⟨h2, h.own⟩, Upd.of_but h3 h.own⟩
theorem Mx.new {P : Program} {t : TypeId} (enc : K → Value) (w : World) (base : Int) (own : OwnM ρ) (r : ρ) :
  ∃ w' b, Sem.run P (Instr.makeMap t none) w = .ok (.map (some b)) w' ∧ Mx (setOwn own (some b) r) r enc w' b [] base ∧ Upd own (setOwn own (some b) r) r w w' ∧ Ext w w' := by
 obtain ⟨w', h1, h2, h3⟩ := NumM.new (P := P) (t := t) enc w base
 exact ⟨w', _, h1, ⟨h2, by unfold setOwn; rw [if_pos rfl]⟩, Upd.fresh h3 (Nat.le_refl _) h2.lt r, h3⟩
end
theorem madeRow {α : Type} {enc : α → List Value} {b n e : Nat} {x : α} {v : Value} (hx : enc x = [v]) (hB : Blk w b (madeCells #[v] (n * 1)) e) (hn : n ≤ maxLen) : OwnR 0 e 1 enc w (some ⟨b, 0, none⟩) n n (List.replicate n x) := by
 have hl : (madeCells #[v] (n * 1)).toList = List.replicate n v := by rw [Nat.mul_one, toList_madeCells_one]
 have hf : (List.replicate n x).flatMap enc = List.replicate n v := by
  clear hl hn hB
  induction n with
  | zero => rfl
  | succ n ih => rw [List.replicate_succ, List.flatMap_cons, ih, List.replicate_succ, hx]; rfl
 refine ⟨by simp, ?_⟩
 rw [List.length_replicate]
 refine ⟨by rw [hf]; simp, .inr ⟨b, n, _, rfl, Nat.zero_le _, hB, Nat.le_refl _, hn, ?_, ?_⟩⟩
 ·have := congrArg List.length hl; simpa using this
 ·rw [hl, hf, List.take_of_length_le (by simp)]
theorem RowR.make {α : Type} {enc : α → List Value} {n e : Nat} {x : α} {v : Value} (hx : enc x = [v]) (hn : n ≤ maxLen) (own : OwnM ρ) (r : ρ) {F : Addr → World → Prop}
  (k : ∀ (b : Nat) w', RowR (setOwn own (some b) r) r e 1 enc w' (some ⟨b, 0, none⟩, n, n) (List.replicate n x) → Upd own (setOwn own (some b) r) r w w' → Ext w w' → b = w.heap.size → F ⟨b, 0, none⟩ w') :
  AllocK w (madeCells #[v] (n * 1)) e F :=
 AllocK.mk fun b w' hb hB x => k b w' ⟨madeRow hx hB hn, fun k hk => by cases hk; unfold setOwn; rw [if_pos rfl]⟩ (Upd.fresh x (by omega) hB.lt r) x hb
end
def eB1 (x : Bool) : List Value := [.bool x]
def eSt (x : ByteArray) : List Value := [.string x]
theorem eB1_len (x : Bool) : (eB1 x).length = 1 := rfl
theorem eSt_len (x : ByteArray) : (eSt x).length = 1 := rfl
end Go.V
