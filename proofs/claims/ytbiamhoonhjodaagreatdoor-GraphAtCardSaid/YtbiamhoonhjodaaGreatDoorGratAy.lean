/- A part of the proof: plain forms of functions and laws about them. -/
import Derived.Test.YtbiamhoonhjodaaGreatDoorGratAx
namespace Go.V
open Go.RowKit (Below)
/-! ### Maps -/
def eStr (s : ByteArray) : Value := .string s
theorem sameNow_str (a b : ByteArray) : Instr.sameNow .string (.string a) (.string b) = some (a == b) := rfl
theorem ba_eq {s t : ByteArray} : (s == t) = true ↔ s = t := by
  rw [← bytesEq_beq]
  exact ⟨fun h => (bytesEq_ext h).symm, fun h => by rw [h, bytesEq_iff]⟩
theorem findNow_str (a : ByteArray) : ∀ (es : List MapEntry) (ks : List ByteArray) (i : Nat), es.map (·.key) = ks.map eStr → Instr.findNow .string (eStr a) es i = some ((ixOf ks a i).bind fun j => (es[j - i]?).map fun e => (j, e.val))
  | [], ks, i, h => by
    have : ks = [] := by cases ks <;> simp at h; rfl
    subst this; rfl
  | e :: es, [], i, h => by simp at h
  | e :: es, b :: ks, i, h => by
    simp only [List.map_cons, List.cons.injEq] at h
    have ih := findNow_str a es ks (i + 1) h.2
    rw [Instr.findNow, h.1, eStr, eStr, sameNow_str]
    by_cases hak : a = b
    · subst hak
      rw [ba_eq.2 rfl]; simp [ixOf]
    · have hs : (a == b) = false := by rw [Bool.eq_false_iff]; exact fun e => hak (ba_eq.1 e)
      rw [hs]
      show Instr.findNow .string (eStr a) es (i + 1) = _
      simp only [ih, ixOf, hak, if_false]
      cases hj : ixOf ks a (i + 1) with
      | none => rfl
      | some j =>
        have := (ixOf_some hj).1
        simp only [Option.bind_some]
        rw [show j - i = (j - (i + 1)) + 1 by omega, List.getElem?_cons_succ]
theorem keyStr {P : Program} {kt : TypeId} (hu : P.underlying kt = some .string) : KeyOk P kt eStr where
  chk e a w := checkS hu rfl e w
  find es ks a w h := by
    have := findNow_str a es ks 0 h
    simp only [Instr.findKey, Sem.run_bind, run_underlying hu, Result.andThen_ok, this, Sem.run_pure, Nat.sub_zero]
  same a := sameS (kd := .string) (k := .string a) rfl
section
variable {K V : Type} [DecidableEq K] {P : Program} {t kt et : TypeId} {enc : K → Value} {encV : V → Value} {z : V} {w w' : World} {r : Nat} {m : List (K × V)} {bs : List Nat} {c : Nat}
theorem MapO.lt (h : MapO enc encV w r m bs c) : r < w.heap.size := by
  obtain ⟨⟨es, h1, _⟩, _⟩ := h; exact (Array.getElem?_eq_some_iff.1 h1).1
theorem MapO.look2 (T : MapT P t kt et enc encV z) (h : MapO enc encV w r m bs c) (a : K) : ∃ v ok, Sem.run P (Instr.lookup t (.map (some r)) (enc a) true) w = .ok (.tuple #[encV v, .bool ok]) w ∧
    ((lget m a = some v ∧ ok = true) ∨ (a ∉ m.map (·.1) ∧ v = z ∧ ok = false)) := by
  obtain ⟨⟨es, h1, hs⟩, hn, hb, ho⟩ := h
  have hg : (getObj r).run P w = .ok (.map es c) w := by simp [getObj, Sem.run, h1]
  rcases found T.key hs hn a w with ⟨i, e, u, hi, he, hek, hev, hl, hbi, hilt, hfind⟩ | ⟨hna, hl, hfind⟩
  · exact ⟨u, true, by simp [Instr.lookup, run_underlying T.und, hg, T.key.chk, hfind], .inl ⟨hl, rfl⟩⟩
  · exact ⟨z, false, by simp [Instr.lookup, run_underlying T.und, hg, T.key.chk, hfind, T.zer], .inr ⟨hna, rfl, rfl⟩⟩
theorem MapO.look1 (T : MapT P t kt et enc encV z) (h : MapO enc encV w r m bs c) (a : K) : ∃ v, Sem.run P (Instr.lookup t (.map (some r)) (enc a) false) w = .ok (encV v) w ∧
    (lget m a = some v ∨ (a ∉ m.map (·.1) ∧ v = z)) := by
  obtain ⟨⟨es, h1, hs⟩, hn, hb, ho⟩ := h
  have hg : (getObj r).run P w = .ok (.map es c) w := by simp [getObj, Sem.run, h1]
  rcases found T.key hs hn a w with ⟨i, e, u, hi, he, hek, hev, hl, hbi, hilt, hfind⟩ | ⟨hna, hl, hfind⟩
  · exact ⟨u, by simp [Instr.lookup, run_underlying T.und, hg, T.key.chk, hfind], .inl hl⟩
  · exact ⟨z, by simp [Instr.lookup, run_underlying T.und, hg, T.key.chk, hfind, T.zer], .inr ⟨hna, rfl⟩⟩
theorem MapO.len (T : MapT P t kt et enc encV z) (ty : TypeId) (h : MapO enc encV w r m bs c) : Sem.run P (Builtin.len_ #[t] ty #[.map (some r)]) w = .ok (.int .i64 (m.length : Int)) w := by
  obtain ⟨⟨es, h1, hs⟩, hn, hb, ho⟩ := h
  have hg : (getObj r).run P w = .ok (.map es c) w := by simp [getObj, Sem.run, h1]
  have hl : es.size = m.length := by have := congrArg List.length hs.1; simpa using this
  simp [Builtin.len_, run_underlying T.und, hg, hl, goInt]
theorem MapO.add (T : MapT P t kt et enc encV z) (h : MapO enc encV w r m bs c) {a : K} (v : V) (ha : a ∉ m.map (·.1)) :
    ∃ w', Sem.run P (Instr.mapUpdate t (.map (some r)) (enc a) (encV v)) w = .ok () w' ∧ MapO enc encV w' r (m ++ [(a, v)]) (bs ++ [c]) (c + 1) ∧ But r w w' := by
  obtain ⟨⟨es, h1, hs⟩, hn, hb, ho⟩ := h
  have hg : (getObj r).run P w = .ok (.map es c) w := by simp [getObj, Sem.run, h1]
  rcases found T.key hs hn a w with ⟨i, e, u, hi, he, hek, hev, hl, hbi, hilt, hfind⟩ | ⟨hna, hl, hfind⟩
  · exact absurd (List.mem_of_getElem? (ix_lt hi)) ha
  · refine ⟨_, ?_, MapO.pushed hs hn hb ho hna (setObj_heap h1), setObj_but _ _ _⟩
    simp only [Instr.mapUpdate, Sem.run_bind, run_underlying T.und, Result.andThen_ok, hg, T.key.chk, hfind]
    rw [setObj_run h1]
theorem MapO.new (enc : K → Value) (encV : V → Value) (w : World) : ∃ w', Sem.run P (Instr.makeMap t none) w = .ok (.map (some w.heap.size)) w' ∧ MapO enc encV w' w.heap.size [] [] 0 ∧ Ext w w' := by
  refine ⟨w.alloc (.map #[] 0), ?_, ⟨⟨#[], heap_alloc_new w _, rfl, rfl, rfl⟩, by simp, by simp, by simp⟩, (Below.refl _ _).alloc (Nat.le_refl _) _⟩
  simp [Instr.makeMap, newObj, Sem.run]
end
def numL {K : Type} : List K → Int → List (K × Int)
  | [], _ => []
  | k :: ks, b => (k, b) :: numL ks (b + 1)
theorem numL_keys {K : Type} : ∀ (ks : List K) (b : Int), (numL ks b).map (·.1) = ks
  | [], _ => rfl
  | k :: ks, b => by rw [numL, List.map_cons, numL_keys ks]
theorem numL_len {K : Type} (ks : List K) (b : Int) : (numL ks b).length = ks.length := by
  have := congrArg List.length (numL_keys ks b); simpa using this
theorem numL_snoc {K : Type} (a : K) : ∀ (ks : List K) (b : Int), numL (ks ++ [a]) b = numL ks b ++ [(a, b + (ks.length : Nat))]
  | [], b => by simp [numL]
  | k :: ks, b => by
    rw [List.cons_append, numL, numL_snoc a ks, numL, List.cons_append]
    congr 3
    simp only [List.length_cons, Prod.mk.injEq, true_and]; omega
theorem numL_get {K : Type} [DecidableEq K] {a : K} {v : Int} : ∀ {ks : List K} {b : Int}, lget (numL ks b) a = some v → ∃ i : Nat, ks[i]? = some a ∧ v = b + i
  | [], b, h => by simp [numL, lget] at h
  | k :: ks, b, h => by
    rw [numL, lget] at h
    split at h
    · rename_i e; subst e; cases h; exact ⟨0, rfl, by simp⟩
    · obtain ⟨i, h1, h2⟩ := numL_get h
      exact ⟨i + 1, by simpa using h1, by omega⟩
def NumM {K : Type} [DecidableEq K] (enc : K → Value) (w : World) (r : Nat) (ks : List K) (base : Int) : Prop := ∃ bs c, MapO enc eK w r (numL ks base) bs c
section
variable {K : Type} [DecidableEq K] {P : Program} {t kt et : TypeId} {enc : K → Value} {w w' : World} {r : Nat} {ks : List K} {base : Int}
theorem NumM.nodup (h : NumM enc w r ks base) : ks.Nodup := by
  obtain ⟨bs, c, h⟩ := h; have := h.nodup; rwa [numL_keys] at this
theorem NumM.lt (h : NumM enc w r ks base) : r < w.heap.size := by obtain ⟨bs, c, h⟩ := h; exact h.lt
theorem NumM.heap (h : NumM enc w r ks base) (k : w'.heap[r]? = w.heap[r]?) : NumM enc w' r ks base := by obtain ⟨bs, c, h⟩ := h; exact ⟨bs, c, h.heap k⟩
theorem NumM.ext (h : NumM enc w r ks base) (k : Ext w w') : NumM enc w' r ks base := h.heap (k.block r h.lt)
theorem NumM.look2 (T : MapT P t kt et enc eK 0) (h : NumM enc w r ks base) (a : K) : ∃ v ok, Sem.run P (Instr.lookup t (.map (some r)) (enc a) true) w = .ok (.tuple #[.int .i64 v, .bool ok]) w ∧
    ((∃ i : Nat, ks[i]? = some a ∧ v = base + i ∧ ok = true) ∨ (a ∉ ks ∧ v = 0 ∧ ok = false)) := by
  obtain ⟨bs, c, h⟩ := h
  obtain ⟨v, ok, h1, h2⟩ := h.look2 T a
  refine ⟨v, ok, h1, ?_⟩
  rw [numL_keys] at h2
  rcases h2 with ⟨h2, h3⟩ | h2
  · obtain ⟨i, h4, h5⟩ := numL_get h2; exact .inl ⟨i, h4, h5, h3⟩
  · exact .inr h2
theorem NumM.look1 (T : MapT P t kt et enc eK 0) (h : NumM enc w r ks base) (a : K) : ∃ v, Sem.run P (Instr.lookup t (.map (some r)) (enc a) false) w = .ok (.int .i64 v) w ∧
    ((∃ i : Nat, ks[i]? = some a ∧ v = base + i) ∨ (a ∉ ks ∧ v = 0)) := by
  obtain ⟨bs, c, h⟩ := h
  obtain ⟨v, h1, h2⟩ := h.look1 T a
  refine ⟨v, h1, ?_⟩
  rw [numL_keys] at h2
  rcases h2 with h2 | h2
  · obtain ⟨i, h4, h5⟩ := numL_get h2; exact .inl ⟨i, h4, h5⟩
  · exact .inr h2
theorem NumM.len (T : MapT P t kt et enc eK 0) (ty : TypeId) (h : NumM enc w r ks base) : Sem.run P (Builtin.len_ #[t] ty #[.map (some r)]) w = .ok (.int .i64 (ks.length : Int)) w := by
  obtain ⟨bs, c, h⟩ := h
  rw [h.len T ty, numL_len]
theorem NumM.add (T : MapT P t kt et enc eK 0) (h : NumM enc w r ks base) {a : K} {v : Int} (hv : v = base + (ks.length : Nat)) (ha : a ∉ ks) :
    ∃ w', Sem.run P (Instr.mapUpdate t (.map (some r)) (enc a) (.int .i64 v)) w = .ok () w' ∧ NumM enc w' r (ks ++ [a]) base ∧ But r w w' := by
  obtain ⟨bs, c, h⟩ := h
  obtain ⟨w', h1, h2, h3⟩ := h.add T v (a := a) (by rw [numL_keys]; exact ha)
  exact ⟨w', h1, ⟨_, _, by rw [numL_snoc, ← hv]; exact h2⟩, h3⟩
theorem NumM.new (enc : K → Value) (w : World) (base : Int) : ∃ w', Sem.run P (Instr.makeMap t none) w = .ok (.map (some w.heap.size)) w' ∧ NumM enc w' w.heap.size [] base ∧ Ext w w' := by
  obtain ⟨w', h1, h2, h3⟩ := MapO.new (P := P) (t := t) enc eK w
  exact ⟨w', h1, ⟨_, _, h2⟩, h3⟩
end
/-! ### Own memory by role -/
structure Mine {ρ : Type} (own : OwnM ρ) (w0 w : World) : Prop where
  fr : Fr (fun _ => none) own w0 w
  top : ∀ k, w.heap.size ≤ k → own k = none
section
variable {ρ : Type} {own own' : OwnM ρ} {r : ρ} {w0 w w' : World}
theorem Mine.refl (w : World) : Mine (fun _ => (none : Option ρ)) w w := ⟨Fr.refl _ _, fun _ _ => rfl⟩
theorem Mine.ext (h : Mine own w0 w) (x : Ext w w') : Mine own w0 w' := ⟨h.fr.trans (Fr.of_ext _ x), fun k hk => h.top k (Nat.le_trans x.size hk)⟩
theorem Mine.upd (h : Mine own w0 w) (u : Upd own own' r w w') : Mine own' w0 w' := ⟨h.fr.trans u.fr, u.top h.top⟩
theorem Mine.below (h : Mine own w0 w) : Ext w0 w := ⟨h.fr.os, h.fr.tape, h.fr.output, h.fr.size, fun k hk => h.fr.block k hk rfl⟩
theorem Upd.fresh {b : Nat} (x : Ext w w') (hb : w.heap.size ≤ b) (hb' : b < w'.heap.size) (r : ρ) : Upd own (setOwn own (some b) r) r w w' :=
  ⟨x.os, x.tape, x.output, x.size, fun k hk _ => x.block k hk, fun k hk => by unfold setOwn; rw [if_neg]; intro e; cases e; omega,
    fun ht k hk => by unfold setOwn; rw [if_neg (by intro e; cases e; omega)]; exact ht k (Nat.le_trans x.size hk)⟩
theorem Upd.none (x : Ext w w') (r : ρ) : Upd own own r w w' := ⟨x.os, x.tape, x.output, x.size, fun k hk _ => x.block k hk, fun _ _ => rfl, fun ht k hk => ht k (Nat.le_trans x.size hk)⟩
theorem RowR.adopt {α : Type} {e : TypeId} {sz base : Nat} {enc : α → List Value} {s : SL} {xs : List α} (h : OwnR base e sz enc w' s.1 s.2.1 s.2.2 xs) (hb : w.heap.size ≤ base) (x : Ext w w') (own : OwnM ρ) (r : ρ) :
    RowR (setOwn own (sblk s) r) r e sz enc w' s xs ∧ Upd own (setOwn own (sblk s) r) r w w' := by
  refine ⟨⟨⟨h.1, h.2.1, h.2.2.imp id fun ⟨g, cap, cur, h1, _, h2⟩ => ⟨g, cap, cur, h1, Nat.zero_le _, h2⟩⟩, fun k hk => by unfold setOwn; rw [if_pos hk]⟩, ?_⟩
  cases hs : sblk s with
  | none =>
    have : setOwn own none r = own := by funext k; unfold setOwn; rw [if_neg (by intro e; cases e)]
    rw [this]; exact Upd.none x r
  | some b =>
    have := h.lt b hs
    exact Upd.fresh x (by omega) this.2 r
structure Bx (own : OwnM ρ) (r : ρ) (w : World) (b : Nat) (cs : Array Value) (t : TypeId) : Prop where
  blk : Blk w b cs t
  own : own b = some r
theorem Bx.ext {b t : Nat} {cs : Array Value} (h : Bx own r w b cs t) (x : Ext w w') : Bx own r w' b cs t := ⟨h.blk.ext x, h.own⟩
theorem Bx.upd {r2 : ρ} {b t : Nat} {cs : Array Value} (h : Bx own r2 w b cs t) (u : Upd own own' r w w') (hne : r2 ≠ r) : Bx own' r2 w' b cs t := ⟨h.blk.upd h.own u hne, by rw [u.same b h.blk.lt]; exact h.own⟩
theorem Bx.set {b t i : Nat} {cs : Array Value} {v : Value} (h : Bx own r w b cs t) (hi : i < cs.size) {F : World → Prop} (k : ∀ w', Bx own r w' b (cs.setIfInBounds i v) t → Upd own own r w w' → F w') : SetK w ⟨b, i, none⟩ v F :=
  SetK.mk h.blk hi fun w' h1 h2 => k w' ⟨h1, h.own⟩ (Upd.of_but h2 h.own)
theorem Bx.new {cs : Array Value} {t : TypeId} (own : OwnM ρ) (r : ρ) {K : Addr → World → Prop} (h : ∀ (b : Nat) (w' : World), Bx (setOwn own (some b) r) r w' b cs t → Upd own (setOwn own (some b) r) r w w' → Ext w w' → b = w.heap.size → K ⟨b, 0, none⟩ w') : AllocK w cs t K :=
  AllocK.mk fun b w' hb hB x => h b w' ⟨hB, by unfold setOwn; rw [if_pos rfl]⟩ (Upd.fresh x (by omega) hB.lt r) x hb
structure Mx {K : Type} [DecidableEq K] (own : OwnM ρ) (r : ρ) (enc : K → Value) (w : World) (b : Nat) (ks : List K) (base : Int) : Prop where
  num : NumM enc w b ks base
  own : own b = some r
section
variable {K : Type} [DecidableEq K] {enc : K → Value} {b : Nat} {ks : List K} {base : Int}
theorem Mx.ext (h : Mx own r enc w b ks base) (x : Ext w w') : Mx own r enc w' b ks base := ⟨h.num.ext x, h.own⟩
theorem Mx.upd {r2 : ρ} (h : Mx own r2 enc w b ks base) (u : Upd own own' r w w') (hne : r2 ≠ r) : Mx own' r2 enc w' b ks base := ⟨h.num.heap (u.block b h.num.lt (by rw [h.own]; simpa using hne)), by rw [u.same b h.num.lt]; exact h.own⟩
theorem Mx.add {P : Program} {t kt et : TypeId} (T : MapT P t kt et enc eK 0) (h : Mx own r enc w b ks base) {a : K} {v : Int} (hv : v = base + (ks.length : Nat)) (ha : a ∉ ks) :
    ∃ w', Sem.run P (Instr.mapUpdate t (.map (some b)) (enc a) (.int .i64 v)) w = .ok () w' ∧ Mx own r enc w' b (ks ++ [a]) base ∧ Upd own own r w w' := by
  obtain ⟨w', h1, h2, h3⟩ := h.num.add T hv ha
  exact ⟨w', h1, ⟨h2, h.own⟩, Upd.of_but h3 h.own⟩
theorem Mx.new {P : Program} {t : TypeId} (enc : K → Value) (w : World) (base : Int) (own : OwnM ρ) (r : ρ) :
    ∃ w' b, Sem.run P (Instr.makeMap t none) w = .ok (.map (some b)) w' ∧ Mx (setOwn own (some b) r) r enc w' b [] base ∧ Upd own (setOwn own (some b) r) r w w' ∧ Ext w w' := by
  obtain ⟨w', h1, h2, h3⟩ := NumM.new (P := P) (t := t) enc w base
  exact ⟨w', _, h1, ⟨h2, by unfold setOwn; rw [if_pos rfl]⟩, Upd.fresh h3 (Nat.le_refl _) h2.lt r, h3⟩
end
theorem madeRow {α : Type} {enc : α → List Value} {b n e : Nat} {x : α} {v : Value} (hx : enc x = [v]) (hB : Blk w b (madeCells #[v] (n * 1)) e) (hn : n ≤ maxLen) : OwnR 0 e 1 enc w (some ⟨b, 0, none⟩) n n (List.replicate n x) := by
  have hl : (madeCells #[v] (n * 1)).toList = List.replicate n v := by rw [Nat.mul_one, toList_madeCells_one]
  have hf : (List.replicate n x).flatMap enc = List.replicate n v := by
    clear hl hn hB
    induction n with
    | zero => rfl
    | succ n ih => rw [List.replicate_succ, List.flatMap_cons, ih, List.replicate_succ, hx]; rfl
  refine ⟨by simp, ?_⟩
  rw [List.length_replicate]
  refine ⟨by rw [hf]; simp, .inr ⟨b, n, _, rfl, Nat.zero_le _, hB, Nat.le_refl _, hn, ?_, ?_⟩⟩
  · have := congrArg List.length hl; simpa using this
  · rw [hl, hf, List.take_of_length_le (by simp)]
theorem RowR.make {α : Type} {enc : α → List Value} {n e : Nat} {x : α} {v : Value} (hx : enc x = [v]) (hn : n ≤ maxLen) (own : OwnM ρ) (r : ρ) {F : Addr → World → Prop}
    (k : ∀ (b : Nat) w', RowR (setOwn own (some b) r) r e 1 enc w' (some ⟨b, 0, none⟩, n, n) (List.replicate n x) → Upd own (setOwn own (some b) r) r w w' → Ext w w' → b = w.heap.size → F ⟨b, 0, none⟩ w') :
    AllocK w (madeCells #[v] (n * 1)) e F :=
  AllocK.mk fun b w' hb hB x => k b w' ⟨madeRow hx hB hn, fun k hk => by cases hk; unfold setOwn; rw [if_pos rfl]⟩ (Upd.fresh x (by omega) hB.lt r) x hb
end
def eB1 (x : Bool) : List Value := [.bool x]
def eSt (x : ByteArray) : List Value := [.string x]
theorem eB1_len (x : Bool) : (eB1 x).length = 1 := rfl
theorem eSt_len (x : ByteArray) : (eSt x).length = 1 := rfl
end Go.V

namespace Go.V
open Go.RowKit (Below)
def eY (x : UInt8) : List Value := [.int .u8 x.toNat]
theorem eY_len (x : UInt8) : (eY x).length = 1 := rfl
theorem eY_one (x : UInt8) (u : Value) (h : u ∈ eY x) : u.oneCell' = true := by simp [eY] at h; subst h; rfl
theorem flat_one {α : Type} (f : α → Value) (xs : List α) : (xs.flatMap fun x => [f x]) = xs.map f := by
  induction xs with
  | nil => rfl
  | cons x xs ih => rw [List.flatMap_cons, ih]; rfl
theorem OwnR.pushN {α : Type} {P : Program} {t ty e te : TypeId} {sz bytes base n : Nat} {enc : α → List Value} {w : World} {a : Option Addr} {l c : Nat} {xs : List α} (ys : List α) (H : SlT P t e sz bytes) (h : OwnR base e sz enc w a l c xs)
    (hb : base ≤ w.heap.size) (he : ∀ x, (enc x).length = sz) (h1 : ∀ x u, u ∈ enc x → u.oneCell' = true) (hlen : (xs.length + ys.length) * bytes ≤ 140737488355328) {cs : Array Value} (hcs : cs = (ys.flatMap enc).toArray) (hn : n = ys.length)
    {F : Option Addr → Nat → Nat → World → Prop}
    (k : ∀ a' c' w', OwnR base e sz enc w' a' (xs.length + ys.length) c' (xs ++ ys) → w.grownBy w' (Value.slice a l c).ownBlock →
      ((Value.slice a' (xs.length + ys.length) c').ownBlock = (Value.slice a l c).ownBlock ∨ ∃ g, (Value.slice a' (xs.length + ys.length) c').ownBlock = some g ∧ w.heap.size ≤ g) → F a' (xs.length + ys.length) c' w') :
    AllocK w cs te fun b w1 => ∃ a' l' c' w2, Sem.run P (Builtin.append_ #[t, t] ty #[.slice a l c, .slice (some b) n n]) w1 = .ok (.slice a' l' c') w2 ∧ F a' l' c' w2 := by
  subst hn
  refine AllocK.mk fun b w1 hb1 hblk hx => ?_
  have ho := h.ext hx
  obtain ⟨a', c', w', hr, h2, h3, h4⟩ := OwnR.appendN (ty := ty) H (xs := xs) (ys := ys) ho (Nat.le_trans hb hx.size) he h1 ⟨b, 0, none⟩ ys.length (fun j u hu => by
    rw [add_mk, Nat.zero_add, hblk.cell, hcs]; simpa using hu) hlen
  refine ⟨a', _, c', w', hr, k a' c' w' h2 ⟨h3.os.trans hx.os, h3.tape.trans hx.tape, h3.output.trans hx.output, Nat.le_trans hx.size h3.size, fun i hi hne => (h3.block i (Nat.lt_of_lt_of_le hi hx.size) hne).trans (hx.block i hi)⟩ ?_⟩
  rcases h4 with h4 | h4
  · exact .inl h4
  · exact .inr ⟨_, h4, hx.size⟩
theorem push_all (xs : List UInt8) : ∀ (r : ByteArray), ((xs.map fun x => ((x.toNat : Nat) : Int)).foldl (fun r n => r.push (UInt8.ofNat n.toNat)) r) = r ++ ⟨xs.toArray⟩ := by
  induction xs with
  | nil => intro r; simp; apply ByteArray.ext; simp
  | cons x xs ih =>
    intro r
    simp only [List.map_cons, List.foldl_cons, ih]
    apply bl_inj
    simp [bl]
theorem OwnR.str {P : Program} {src dst e : TypeId} {w : World} {base : Nat} {a : Option Addr} {l c : Nat} {xs : List UInt8} (hs : P.underlying src = some (.slice e)) (he : P.underlying e = some (.int .u8)) (hd : P.underlying dst = some .string)
    (h : OwnR base e 1 eY w a l c xs) (hne : xs ≠ []) : Sem.run P (convert src dst (.slice a l c)) w = .ok (.string ⟨xs.toArray⟩) w := by
  obtain ⟨rfl, hf, h⟩ := h
  rcases h with ⟨h0, hn⟩ | ⟨g, cap, cur, hv, hbg, hg, h3, h4, h5, h6⟩
  · exact absurd (List.length_eq_zero_iff.1 hn) hne
  simp only [Value.slice.injEq] at hv
  obtain ⟨rfl, _, rfl⟩ := hv
  rw [run_convert_bytes_string w src dst e _ _ _ hs he hd]
  have hfl : xs.flatMap eY = xs.map fun x => Value.int .u8 ((x.toNat : Nat) : Int) := flat_one _ xs
  have hg : Blk w g cur e := hg
  have := run_loadCells_list (P := P) (w := w) ⟨g, 0, none⟩ (xs.map fun x => Value.int .u8 ((x.toNat : Nat) : Int)) (fun j v hj => by
    have hlt : j < xs.length := by have := (List.getElem?_eq_some_iff.1 hj).1; simpa using this
    rw [add_mk, Nat.zero_add, hg.cell]
    rw [hfl] at h6
    rw [← h6, List.getElem?_take_of_lt (by omega), Array.getElem?_toList] at hj
    exact hj)
  rw [List.length_map] at this
  have e2 := run_bytesToString w ⟨g, 0, none⟩ xs.length c (xs.map fun x => ((x.toNat : Nat) : Int)) (by
    rw [List.map_map]; exact this)
  rw [e2, push_all]
  congr 2
end Go.V

namespace Go.V.Gr
open Go Go.V
abbrev Ft := Int × ByteArray
structure Nd where
  kd : ByteArray
  n : Int
  tx : ByteArray
  fs : List Ft
  ks : List Int
  deriving Inhabited
def Nd.hd (x : Nd) : ByteArray × Int × ByteArray × List Ft × Nat := (x.kd, x.n, x.tx, x.fs, x.ks.length)
def nd (l : List Nd) (i : Nat) : Nd := l[i]?.getD ⟨⟨#[]⟩, 0, ⟨#[]⟩, [], []⟩
def kid (l : List Nd) (i m : Nat) : Nat := ((nd l i).ks[m]?.getD 0).toNat
def kids (l : List Nd) (i : Nat) : List Nat := (nd l i).ks.map Int.toNat
def Closed (l : List Nd) : Prop := ∀ x ∈ l, ∀ k ∈ x.ks, 0 ≤ k ∧ k < l.length
def EqK (l l' : List Nd) : Nat → Nat → Nat → Prop
  | 0, i, j => (nd l i).hd = (nd l' j).hd
  | d + 1, i, j => (nd l i).hd = (nd l' j).hd ∧ ∀ m, m < (nd l i).ks.length → EqK l l' d (kid l i m) (kid l' j m)
def Eqv (l l' : List Nd) (i j : Nat) : Prop := ∀ d, EqK l l' d i j
section
variable {l l' l'' : List Nd} {i j k : Nat}
theorem nd_get {i : Nat} (h : i < l.length) : nd l i = l[i] := by rw [nd, List.getElem?_eq_getElem h]; rfl
theorem hd_len {x y : Nd} (h : x.hd = y.hd) : x.ks.length = y.ks.length := by
  simp only [Nd.hd, Prod.mk.injEq] at h; exact h.2.2.2.2
theorem EqK.head {d : Nat} (h : EqK l l' d i j) : (nd l i).hd = (nd l' j).hd := by
  cases d with
  | zero => exact h
  | succ d => exact h.1
theorem EqK.refl (l : List Nd) : ∀ d i, EqK l l d i i
  | 0, _ => rfl
  | d + 1, _ => ⟨rfl, fun _ _ => EqK.refl l d _⟩
theorem EqK.symm : ∀ {d i j}, EqK l l' d i j → EqK l' l d j i
  | 0, _, _, h => Eq.symm (α := _ × _) h
  | d + 1, _, _, h => ⟨h.1.symm, fun m hm => (h.2 m (by rw [hd_len h.1]; exact hm)).symm⟩
theorem EqK.trans : ∀ {d i j k}, EqK l l' d i j → EqK l' l'' d j k → EqK l l'' d i k
  | 0, _, _, _, h, h2 => Eq.trans (α := _ × _) h h2
  | d + 1, _, _, _, h, h2 => ⟨h.1.trans h2.1, fun m hm => (h.2 m hm).trans (h2.2 m (by rw [← hd_len h.1]; exact hm))⟩
theorem Eqv.refl (l : List Nd) (i : Nat) : Eqv l l i i := fun d => EqK.refl l d i
theorem Eqv.symm (h : Eqv l l' i j) : Eqv l' l j i := fun d => (h d).symm
theorem Eqv.trans (h : Eqv l l' i j) (h2 : Eqv l' l'' j k) : Eqv l l'' i k := fun d => (h d).trans (h2 d)
theorem Eqv.head (h : Eqv l l' i j) : (nd l i).hd = (nd l' j).hd := h 0
theorem Eqv.kid {m : Nat} (h : Eqv l l' i j) (hm : m < (nd l i).ks.length) : Eqv l l' (kid l i m) (Gr.kid l' j m) := fun d => (h (d + 1)).2 m hm
theorem Eqv.mk (h : (nd l i).hd = (nd l' j).hd) (h2 : ∀ m, m < (nd l i).ks.length → Eqv l l' (Gr.kid l i m) (Gr.kid l' j m)) : Eqv l l' i j
  | 0 => h
  | d + 1 => ⟨h, fun m hm => h2 m hm d⟩
theorem Eqv.coind (R : Nat → Nat → Prop) (h : ∀ i j, R i j → (nd l i).hd = (nd l' j).hd ∧ ∀ m, m < (nd l i).ks.length → R (Gr.kid l i m) (Gr.kid l' j m)) (hr : R i j) : Eqv l l' i j := by
  intro d
  induction d generalizing i j with
  | zero => exact (h i j hr).1
  | succ d ih => exact ⟨(h i j hr).1, fun m hm => ih ((h i j hr).2 m hm)⟩
theorem Eqv.map (f : Nat → Nat) (P : Nat → Prop) (h : ∀ i, P i → (nd l i).hd = (nd l' (f i)).hd ∧ ∀ m, m < (nd l i).ks.length → P (Gr.kid l i m) ∧ Gr.kid l' (f i) m = f (Gr.kid l i m)) (hi : P i) : Eqv l l' i (f i) :=
  Eqv.coind (fun i j => P i ∧ j = f i) (by rintro i j ⟨hp, rfl⟩; exact ⟨(h i hp).1, fun m hm => ⟨((h i hp).2 m hm).1, ((h i hp).2 m hm).2⟩⟩) ⟨hi, rfl⟩
theorem kid_lt (h : Closed l) (hi : i < l.length) {m : Nat} (hm : m < (nd l i).ks.length) : Gr.kid l i m < l.length := by
  rw [nd_get hi] at hm
  have := h _ (List.getElem_mem hi) _ (List.getElem_mem hm)
  rw [Gr.kid, nd_get hi, List.getElem?_eq_getElem hm, Option.getD_some]; omega
theorem kids_len : (kids l i).length = (nd l i).ks.length := by simp [kids]
theorem kids_get {m : Nat} (hm : m < (nd l i).ks.length) : (kids l i)[m]? = some (Gr.kid l i m) := by
  rw [kids, List.getElem?_map, Gr.kid, List.getElem?_eq_getElem hm]; rfl
/-! ### Classes -/
def Cls (l : List Nd) (c : List Int) : Prop := c.length = l.length ∧ ∀ i j, i < l.length → j < l.length → (c[i]?.getD 0 = c[j]?.getD 0 ↔ Eqv l l i j)
/-! ### Least graphs -/
def Seen (l : List Nd) (vs : List Nat) (i : Nat) : Prop := ∃ v ∈ vs, Eqv l l v i
inductive Dfs (l : List Nd) : List Nat → List Nat → List Nat → Prop
  | nil (vs : List Nat) : Dfs l [] vs vs
  | hit {i : Nat} {ks vs vs' : List Nat} : Seen l vs i → Dfs l ks vs vs' → Dfs l (i :: ks) vs vs'
  | new {i : Nat} {ks vs v1 v2 : List Nat} : ¬ Seen l vs i → Dfs l (kids l i) (vs ++ [i]) v1 → Dfs l ks v1 v2 → Dfs l (i :: ks) vs v2
theorem Dfs.det {ks vs a b : List Nat} (h : Dfs l ks vs a) (h2 : Dfs l ks vs b) : a = b := by
  induction h generalizing b with
  | nil vs => cases h2; rfl
  | hit hs _ ih =>
    cases h2 with
    | hit _ h2 => exact ih h2
    | new hn _ _ => exact absurd hs hn
  | new hn _ _ ih1 ih2 =>
    cases h2 with
    | hit hs _ => exact absurd hs hn
    | new _ h3 h4 => have := ih1 h3; subst this; exact ih2 h4
theorem Dfs.append {ks ks2 vs v1 v2 : List Nat} (h : Dfs l ks vs v1) (h2 : Dfs l ks2 v1 v2) : Dfs l (ks ++ ks2) vs v2 := by
  induction h with
  | nil vs => exact h2
  | hit hs _ ih => exact .hit hs (ih h2)
  | new hn h1 _ _ ih => exact .new hn h1 (ih h2)
theorem Dfs.grow {ks vs vs' : List Nat} (h : Dfs l ks vs vs') : ∃ t, vs' = vs ++ t := by
  induction h with
  | nil vs => exact ⟨[], by simp⟩
  | hit _ _ ih => exact ih
  | new _ _ _ ih1 ih2 =>
    obtain ⟨t1, rfl⟩ := ih1
    obtain ⟨t2, rfl⟩ := ih2
    exact ⟨_, by rw [List.append_assoc, List.append_assoc]⟩
theorem Seen.grow {vs t : List Nat} (h : Seen l vs i) : Seen l (vs ++ t) i := by
  obtain ⟨v, hv, e⟩ := h
  exact ⟨v, List.mem_append_left _ hv, e⟩
theorem Dfs.seen {ks vs vs' : List Nat} (h : Dfs l ks vs vs') : ∀ k ∈ ks, Seen l vs' k := by
  induction h with
  | nil vs => simp
  | hit hs h ih =>
    intro k hk
    rcases List.mem_cons.1 hk with rfl | hk
    · obtain ⟨t, rfl⟩ := h.grow; exact hs.grow
    · exact ih k hk
  | new hn h1 h2 ih1 ih2 =>
    intro k hk
    rcases List.mem_cons.1 hk with rfl | hk
    · obtain ⟨t1, rfl⟩ := h1.grow
      obtain ⟨t2, rfl⟩ := h2.grow
      exact ⟨k, by simp, Eqv.refl _ _⟩
    · exact ih2 k hk
theorem Dfs.under {ks vs vs' : List Nat} (h : Dfs l ks vs vs') : ∀ v ∈ vs', v ∈ vs ∨ ∀ k ∈ kids l v, Seen l vs' k := by
  induction h with
  | nil vs => exact fun v hv => .inl hv
  | hit _ _ ih => exact ih
  | @new i ks vs v1 v2 hn h1 h2 ih1 ih2 =>
    intro v hv
    rcases ih2 v hv with h3 | h3
    · rcases ih1 v h3 with h4 | h4
      · rcases List.mem_append.1 h4 with h5 | h5
        · exact .inl h5
        · simp only [List.mem_singleton] at h5
          subst h5
          right; intro k hk
          obtain ⟨t2, rfl⟩ := h2.grow
          exact (h1.seen k hk).grow
      · right; intro k hk
        obtain ⟨t2, rfl⟩ := h2.grow
        exact (h4 k hk).grow
    · exact .inr h3
def Apart (l : List Nd) (vs : List Nat) : Prop := ∀ (a b x y : Nat), vs[a]? = some x → vs[b]? = some y → Eqv l l x y → a = b
theorem Apart.push {vs : List Nat} (h : Apart l vs) (hn : ¬ Seen l vs i) : Apart l (vs ++ [i]) := by
  intro a b x y ha hb e
  have key : ∀ {a : Nat} {x : Nat}, (vs ++ [i])[a]? = some x → (a < vs.length ∧ vs[a]? = some x) ∨ (a = vs.length ∧ x = i) := by
    intro a x ha
    rcases Nat.lt_or_ge a vs.length with h1 | h1
    · rw [List.getElem?_append_left h1] at ha; exact .inl ⟨h1, ha⟩
    · rw [List.getElem?_append_right h1] at ha
      have h2 : a - vs.length < 1 := (List.getElem?_eq_some_iff.1 ha).1
      have : a - vs.length = 0 := by omega
      rw [this] at ha
      simp at ha
      exact .inr ⟨by omega, ha.symm⟩
  rcases key ha with ⟨a1, a2⟩ | ⟨a1, rfl⟩
  · rcases key hb with ⟨b1, b2⟩ | ⟨b1, rfl⟩
    · exact h a b x y a2 b2 e
    · exact absurd ⟨x, List.mem_of_getElem? a2, e⟩ hn
  · rcases key hb with ⟨b1, b2⟩ | ⟨b1, rfl⟩
    · exact absurd ⟨y, List.mem_of_getElem? b2, e.symm⟩ hn
    · omega
theorem Dfs.apart {ks vs vs' : List Nat} (h : Dfs l ks vs vs') (ha : Apart l vs) : Apart l vs' := by
  induction h with
  | nil vs => exact ha
  | hit _ _ ih => exact ih ha
  | new hn _ _ ih1 ih2 => exact ih2 (ih1 (ha.push hn))
theorem Dfs.lt {ks vs vs' : List Nat} (h : Dfs l ks vs vs') (hc : Closed l) (hk : ∀ k ∈ ks, k < l.length) (hv : ∀ v ∈ vs, v < l.length) : ∀ v ∈ vs', v < l.length := by
  induction h with
  | nil vs => exact hv
  | hit _ _ ih => exact ih (fun k h => hk k (List.mem_cons_of_mem _ h)) hv
  | @new i ks vs v1 v2 hn h1 h2 ih1 ih2 =>
    refine ih2 (fun k h => hk k (List.mem_cons_of_mem _ h)) (ih1 (fun k h => ?_) (fun v h => ?_))
    · have hi : i < l.length := hk i (by simp)
      obtain ⟨m, hm⟩ := List.getElem?_of_mem h
      have h2 : m < (kids l i).length := (List.getElem?_eq_some_iff.1 hm).1
      rw [kids_len] at h2
      rw [kids_get h2] at hm; cases hm
      exact kid_lt hc hi h2
    · rcases List.mem_append.1 h with h | h
      · exact hv v h
      · simp at h; subst h; exact hk v (by simp)
structure IsG (l : List Nd) (vs : List Nat) (out : List Nd) : Prop where
  len : out.length = vs.length
  hd : ∀ q (h : q < vs.length), (nd out q).hd = (nd l vs[q]).hd
  ks : ∀ q (h : q < vs.length) m, m < (nd out q).ks.length → ∃ p, (nd out q).ks[m]? = some ((p : Nat) : Int) ∧ ∃ hp : p < vs.length, Eqv l l vs[p] (Gr.kid l vs[q] m)
def Least (l : List Nd) (i : Nat) (out : List Nd) : Prop := ∃ vs, Dfs l [i] [] vs ∧ IsG l vs out
theorem nd_ext {x y : Nd} (h : x.hd = y.hd) (h2 : ∀ m, m < x.ks.length → x.ks[m]? = y.ks[m]?) : x = y := by
  obtain ⟨a, b, c, d, e⟩ := x
  obtain ⟨a', b', c', d', e'⟩ := y
  simp only [Nd.hd, Prod.mk.injEq] at h
  obtain ⟨rfl, rfl, rfl, rfl, hl⟩ := h
  have : e = e' := by
    apply List.ext_getElem?
    intro m
    rcases Nat.lt_or_ge m e.length with h | h
    · exact h2 m h
    · rw [List.getElem?_eq_none h, List.getElem?_eq_none (by omega)]
  rw [this]
def Like (l l' : List Nd) (vs us : List Nat) : Prop := vs.length = us.length ∧ ∀ (a x y : Nat), vs[a]? = some x → us[a]? = some y → Eqv l l' x y
theorem Like.nil : Like l l' [] [] := ⟨rfl, fun a x y h => by simp at h⟩
theorem Like.push {vs us : List Nat} (h : Like l l' vs us) (e : Eqv l l' i j) : Like l l' (vs ++ [i]) (us ++ [j]) := by
  refine ⟨by simp [h.1], fun a x y ha hb => ?_⟩
  rcases Nat.lt_or_ge a vs.length with h1 | h1
  · rw [List.getElem?_append_left h1] at ha
    rw [List.getElem?_append_left (by rw [← h.1]; exact h1)] at hb
    exact h.2 a x y ha hb
  · rw [List.getElem?_append_right h1] at ha
    rw [List.getElem?_append_right (by rw [← h.1]; exact h1)] at hb
    have h2 : a - vs.length < 1 := (List.getElem?_eq_some_iff.1 ha).1
    have h3 : a - vs.length = 0 := by omega
    have h4 : a - us.length = 0 := by rw [← h.1]; exact h3
    rw [h3] at ha; rw [h4] at hb
    simp at ha hb
    subst ha; subst hb; exact e
theorem Like.seen {vs us : List Nat} (h : Like l l' vs us) (e : Eqv l l' i j) : Seen l vs i ↔ Seen l' us j := by
  constructor
  · rintro ⟨v, hv, ev⟩
    obtain ⟨a, ha⟩ := List.getElem?_of_mem hv
    have h1 : a < us.length := by rw [← h.1]; exact (List.getElem?_eq_some_iff.1 ha).1
    have h2 := List.getElem?_eq_getElem h1
    exact ⟨us[a], List.getElem_mem h1, ((h.2 a _ _ ha h2).symm.trans ev).trans e⟩
  · rintro ⟨v, hv, ev⟩
    obtain ⟨a, ha⟩ := List.getElem?_of_mem hv
    have h1 : a < vs.length := by rw [h.1]; exact (List.getElem?_eq_some_iff.1 ha).1
    have h2 := List.getElem?_eq_getElem h1
    exact ⟨vs[a], List.getElem_mem h1, ((h.2 a _ _ h2 ha).trans ev).trans e.symm⟩
theorem Like.kids (e : Eqv l l' i j) : Like l l' (kids l i) (Gr.kids l' j) := by
  refine ⟨by rw [kids_len, kids_len, hd_len e.head], fun a x y ha hb => ?_⟩
  have h1 : a < (Gr.kids l i).length := (List.getElem?_eq_some_iff.1 ha).1
  rw [kids_len] at h1
  rw [kids_get h1] at ha
  rw [kids_get (by rw [← hd_len e.head]; exact h1)] at hb
  cases ha; cases hb
  exact e.kid h1
theorem Like.cons {ks js : List Nat} (h : Like l l' (i :: ks) js) : ∃ j ks', js = j :: ks' ∧ Eqv l l' i j ∧ Like l l' ks ks' := by
  obtain ⟨h1, h2⟩ := h
  cases js with
  | nil => simp at h1
  | cons j ks' => exact ⟨j, ks', rfl, h2 0 i j rfl rfl, by simpa using h1, fun a x y ha hb => h2 (a + 1) x y (by simpa using ha) (by simpa using hb)⟩
theorem Dfs.like {ks vs vs' : List Nat} (h : Dfs l ks vs vs') : ∀ {js us : List Nat}, Like l l' ks js → Like l l' vs us → ∃ us', Dfs l' js us us' ∧ Like l l' vs' us' := by
  induction h with
  | nil vs =>
    intro js us h1 h2
    have : js = [] := List.length_eq_zero_iff.1 h1.1.symm
    subst this
    exact ⟨us, .nil _, h2⟩
  | hit hs _ ih =>
    intro js us h1 h2
    obtain ⟨j, ks', rfl, e, h3⟩ := h1.cons
    obtain ⟨us', h4, h5⟩ := ih h3 h2
    exact ⟨us', .hit ((h2.seen e).1 hs) h4, h5⟩
  | new hn _ _ ih1 ih2 =>
    intro js us h1 h2
    obtain ⟨j, ks', rfl, e, h3⟩ := h1.cons
    obtain ⟨u1, h4, h5⟩ := ih1 (Like.kids e) (h2.push e)
    obtain ⟨u2, h6, h7⟩ := ih2 h3 h5
    exact ⟨u2, .new (fun hs => hn ((h2.seen e).2 hs)) h4 h6, h7⟩
theorem IsG.uniq {vs us : List Nat} {out out' : List Nd} (h : IsG l vs out) (h' : IsG l' us out') (hl : Like l l' vs us) (ha : Apart l vs) : out = out' := by
  have hlen : out.length = out'.length := by rw [h.len, h'.len, hl.1]
  apply List.ext_getElem hlen
  intro q h1 h2
  have hq : q < vs.length := by rw [← h.len]; exact h1
  have hq' : q < us.length := by rw [← h'.len]; exact h2
  rw [← nd_get h1, ← nd_get h2]
  have eq : Eqv l l' vs[q] us[q] := hl.2 q _ _ (List.getElem?_eq_getElem hq) (List.getElem?_eq_getElem hq')
  have hh : (nd out q).hd = (nd out' q).hd := by rw [h.hd q hq, h'.hd q hq']; exact eq.head
  refine nd_ext hh fun m hm => ?_
  obtain ⟨p, e1, hp, e2⟩ := h.ks q hq m hm
  obtain ⟨p', e1', hp', e2'⟩ := h'.ks q hq' m (by rw [← hd_len hh]; exact hm)
  have hm2 : m < (nd l vs[q]).ks.length := by rw [← hd_len (h.hd q hq)]; exact hm
  have ek := eq.kid hm2
  have ep' : Eqv l l' (vs[p']'(by rw [hl.1]; exact hp')) us[p'] := hl.2 p' _ _ (List.getElem?_eq_getElem (by rw [hl.1]; exact hp')) (List.getElem?_eq_getElem hp')
  have : p = p' := ha p p' _ _ (List.getElem?_eq_getElem hp) (List.getElem?_eq_getElem (by rw [hl.1]; exact hp')) ((e2.trans ek).trans (ep'.trans e2').symm)
  rw [e1, e1', this]
theorem Least.uniq {out out' : List Nd} (h : Least l i out) (h' : Least l' j out') (e : Eqv l l' i j) : out = out' := by
  obtain ⟨vs, d, g⟩ := h
  obtain ⟨us, d', g'⟩ := h'
  obtain ⟨us2, d2, lk⟩ := d.like (l' := l') (js := [j]) (us := []) (Like.nil.push e) Like.nil
  have := d2.det d'
  subst this
  exact g.uniq g' lk (d.apart fun a b x y ha => by simp at ha)
theorem Dfs.first {i : Nat} {vs : List Nat} (h : Dfs l [i] [] vs) : ∃ t, vs = i :: t := by
  cases h with
  | hit hs _ => obtain ⟨v, hv, _⟩ := hs; cases hv
  | new _ h1 h2 =>
    cases h2
    obtain ⟨t, rfl⟩ := h1.grow
    exact ⟨t, rfl⟩
theorem IsG.eqv {vs : List Nat} {out : List Nd} (h : IsG l vs out) {q : Nat} (hq : q < vs.length) : Eqv out l q vs[q] := by
  refine Eqv.coind (fun a b => ∃ h : a < vs.length, Eqv l l vs[a] b) (fun a b hab => ?_) ⟨hq, Eqv.refl _ _⟩
  obtain ⟨ha, e⟩ := hab
  refine ⟨(h.hd a ha).trans e.head, fun m hm => ?_⟩
  obtain ⟨p, e1, hp, e2⟩ := h.ks a ha m hm
  have : Gr.kid out a m = p := by rw [Gr.kid, e1]; simp
  rw [this]
  exact ⟨hp, e2.trans (e.kid (by rw [← hd_len (h.hd a ha)]; exact hm))⟩
theorem Least.eqv {out : List Nd} (h : Least l i out) : Eqv out l 0 i := by
  obtain ⟨vs, d, g⟩ := h
  obtain ⟨t, rfl⟩ := d.first
  exact g.eqv (q := 0) (by simp)
theorem Least.pos {out : List Nd} (h : Least l i out) : 0 < out.length := by
  obtain ⟨vs, d, g⟩ := h
  obtain ⟨t, rfl⟩ := d.first
  rw [g.len]; simp
theorem Least.closed {out : List Nd} (h : Least l i out) : Closed out := by
  obtain ⟨vs, d, g⟩ := h
  intro x hx k hk
  obtain ⟨q, hq, rfl⟩ := List.getElem_of_mem hx
  obtain ⟨m, hm, rfl⟩ := List.getElem_of_mem hk
  have hq' : q < vs.length := by rw [← g.len]; exact hq
  obtain ⟨p, e1, hp, _⟩ := g.ks q hq' m (by rw [nd_get hq]; exact hm)
  rw [nd_get hq, List.getElem?_eq_getElem hm] at e1
  simp only [Option.some.injEq] at e1
  rw [e1, g.len]; omega
theorem Least.node {out : List Nd} (h : Least l i out) (hc : Closed l) (hi : i < l.length) {q : Nat} (hq : q < out.length) : ∃ v, v < l.length ∧ Eqv out l q v := by
  obtain ⟨vs, d, g⟩ := h
  have hq' : q < vs.length := by rw [← g.len]; exact hq
  exact ⟨vs[q], d.lt hc (by simpa using hi) (by simp) _ (List.getElem_mem hq'), g.eqv hq'⟩
theorem Least.iff {out out' : List Nd} (h : Least l i out) (h' : Least l' j out') : out = out' ↔ Eqv l l' i j :=
  ⟨fun e => by subst e; exact h.eqv.symm.trans h'.eqv, h.uniq h'⟩
end
end Go.V.Gr

namespace Go.V.Gr
open Go Go.V
open Go.RowKit (Below)
theorem adK {a : Option Addr} {b : Addr} (h : a = some b) {F : Addr → Prop} (k : F b) : AddrK a F := by subst h; exact k
theorem tl_iff {s t : ByteArray} : (s.toList == t.toList) = true ↔ s = t := by
  rw [toList_beq, bytesEq_beq]; exact ba_eq
def RL {α : Type} (sz : Nat) (R : World → Cells → α → Prop) (w : World) (a : Option Addr) (l : Nat) (xs : List α) : Prop := Go.V.Rows sz R w a l xs ∧ l ≤ maxLen
def RFt (_ : World) (f : Cells) (x : Ft) : Prop := f 0 = some (.int .i64 x.1) ∧ f 1 = some (.string x.2) ∧ x.2.size ≤ maxLen
theorem RFt.mono : Mono RFt := fun _ _ _ _ _ _ h k => ⟨h _ _ k.1, h _ _ k.2.1, k.2.2⟩
theorem RL.ext {α : Type} {sz : Nat} {R : World → Cells → α → Prop} (hR : Mono R) {w w' : World} {a : Option Addr} {l : Nat} {xs : List α} (h : RL sz R w a l xs) (k : Ext w w') : RL sz R w' a l xs := ⟨h.1.ext hR k, h.2⟩
theorem RL.len {α : Type} {sz : Nat} {R : World → Cells → α → Prop} {w : World} {a : Option Addr} {l : Nat} {xs : List α} (h : RL sz R w a l xs) : l = xs.length := h.1.1
def RNd (w : World) (f : Cells) (x : Nd) : Prop := f 0 = some (.string x.kd) ∧ f 1 = some (.int .i64 x.n) ∧ f 2 = some (.string x.tx) ∧ x.kd.size ≤ maxLen ∧ x.tx.size ≤ maxLen ∧
  (∃ a l c, f 3 = some (.slice a l c) ∧ RL 2 RFt w a l x.fs) ∧ (∃ a l c, f 4 = some (.slice a l c) ∧ RL 1 RInt w a l x.ks) ∧ (Lit.int .i64 x.n).wf = true
theorem RNd.mono : Mono RNd := fun _ _ _ _ _ e h ⟨h0, h1, h2, h3, h4, ⟨a, l, c, h5, h6⟩, ⟨a', l', c', h7, h8⟩, h9⟩ =>
  ⟨h _ _ h0, h _ _ h1, h _ _ h2, h3, h4, ⟨a, l, c, h _ _ h5, h6.ext RFt.mono e⟩, ⟨a', l', c', h _ _ h7, h8.ext RInt.mono e⟩, h9⟩
abbrev RNds (w : World) (a : Option Addr) (l : Nat) (xs : List Nd) : Prop := RL 5 RNd w a l xs
theorem local5 {w : World} {z0 z1 z2 z3 z4 v0 v1 v2 v3 v4 : Value} {t : Nat} {F : Addr → World → Prop}
    (h : ∀ (b : Nat) (w' : World), b = w.heap.size → Blk w' b #[v0, v1, v2, v3, v4] t → Ext w w' → F ⟨b, 0, none⟩ w') :
    AllocK w #[z0, z1, z2, z3, z4] t fun b w1 => SetK w1 (b.add 0) v0 fun w2 => SetK w2 (b.add 1) v1 fun w3 => SetK w3 (b.add 2) v2 fun w4 => SetK w4 (b.add 3) v3 fun w5 => SetK w5 (b.add 4) v4 fun w6 => F b w6 := by
  refine AllocK.mk fun b w1 hb h1 hx => ?_
  rw [add_mk, add_mk, add_mk, add_mk, add_mk]
  refine SetK.mk h1 (by simp) fun w2 h2 g2 => SetK.mk h2 (by simp) fun w3 h3 g3 => SetK.mk h3 (by simp) fun w4 h4 g4 => SetK.mk h4 (by simp) fun w5 h5 g5 => SetK.mk h5 (by simp) fun w6 h6 g6 => ?_
  exact h b w6 hb (by simpa using h6) (g6.below (g5.below (g4.below (g3.below (g2.below hx (by omega)) (by omega)) (by omega)) (by omega)) (by omega))
end Go.V.Gr
