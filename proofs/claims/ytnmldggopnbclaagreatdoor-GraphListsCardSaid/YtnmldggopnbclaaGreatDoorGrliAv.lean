/- A part of the proof: plain forms of functions and laws about them. -/
import Derived.Test.YtnmldggopnbclaaGreatDoorGrliAu
namespace Go.V
open Go.RowKit (Below)
def BlkF (w : World) (b : Nat) (cs : Array Value) (t : Nat) : Prop := ∃ fz : Nat × Nat, w.heap[b]? = some (.cells cs t fz) ∧ (fz.2 = 0 ∨ cs.size ≤ fz.1)
theorem Blk.f {w : World} {b : Nat} {cs : Array Value} {t : Nat} (h : Blk w b cs t) : BlkF w b cs t := ⟨(0, 0), h, .inl rfl⟩
theorem BlkF.lt {w : World} {b : Nat} {cs : Array Value} {t : Nat} (h : BlkF w b cs t) : b < w.heap.size := by obtain ⟨_, h, _⟩ := h; exact (Array.getElem?_eq_some_iff.1 h).1
theorem BlkF.cell {w : World} {b : Nat} {cs : Array Value} {t : Nat} (h : BlkF w b cs t) (i : Nat) : w.cell? ⟨b, i, none⟩ = cs[i]? := by
 obtain ⟨_, h, _⟩ := h; simp [World.cell?, h]
theorem BlkF.frozen {w : World} {b : Nat} {cs : Array Value} {t : Nat} (h : BlkF w b cs t) {i : Nat} (hi : i < cs.size) : w.frozen? ⟨b, i, none⟩ = false := by
 obtain ⟨⟨lo, hi'⟩, h, hf⟩ := h
 simp only [World.frozen?, h, Bool.and_eq_false_iff, decide_eq_false_iff_not]
 simp only at hf
 rcases hf with hf | hf <;> omega
theorem BlkF.heap {w w' : World} {b : Nat} {cs : Array Value} {t : Nat} (h : BlkF w b cs t) (k : w'.heap[b]? = w.heap[b]?) : BlkF w' b cs t := by
 obtain ⟨fz, h, hf⟩ := h; exact ⟨fz, k.trans h, hf⟩
theorem BlkF.set1 {w : World} {b i : Nat} {cs : Array Value} {t : Nat} (h : BlkF w b cs t) (v : Value) : BlkF (w.setCell ⟨b, i, none⟩ v) b (cs.setIfInBounds i v) t ∧ But b w (w.setCell ⟨b, i, none⟩ v) := by
 obtain ⟨fz, h, hf⟩ := h
 refine ⟨⟨fz, ?_, by simpa using hf⟩, ⟨rfl, rfl, rfl, by simp, fun k hk => heap_setCell_other w ⟨b, i, none⟩ k v hk⟩⟩
 simp only [World.setCell, Array.getElem?_modify, if_true, h, Option.map_some]
 rfl
theorem BlkF.sets {g t : Nat} : ∀ (vs : List Value) (w : World) (cur : Array Value) (o : Nat), BlkF w g cur t → BlkF (w.setCells g o vs) g (putL cur o vs) t ∧ But g w (w.setCells g o vs)
 | [], w, cur, o, h => ⟨h, ⟨rfl, rfl, rfl, rfl, fun _ _ => rfl⟩⟩
 | v :: r, w, cur, o, h => by
  obtain ⟨h1, b1⟩ := h.set1 (i := o) v
  obtain ⟨h2, b2⟩ := BlkF.sets r _ _ (o + 1) h1
  exact ⟨h2, b1.trans b2⟩
theorem SetK.mkF {w : World} {b i : Nat} {cs : Array Value} {t : Nat} {v : Value} {F : World → Prop} (hb : BlkF w b cs t) (hi : i < cs.size)
  (h : ∀ w', BlkF w' b (cs.setIfInBounds i v) t → But b w w' → F w') : SetK w ⟨b, i, none⟩ v F := by
 obtain ⟨h1, h2⟩ := hb.set1 (i := i) v
 exact ⟨⟨⟨_, by rw [hb.cell, Array.getElem?_eq_getElem hi]⟩, hb.frozen hi⟩, h _ h1 h2⟩
structure Rn.Le (ρ ρ' : Rn) : Prop where
 tok : ∀ t, ρ.dom t → ρ'.dom t ∧ ρ'.blk t = ρ.blk t ∧ ρ'.off t = ρ.off t
 cap : ∀ c, ρ.cdom c → ρ'.cdom c ∧ ρ'.cap c = ρ.cap c
theorem Rn.Le.refl (ρ : Rn) : Rn.Le ρ ρ := ⟨fun _ h => ⟨h, rfl, rfl⟩, fun _ h => ⟨h, rfl⟩⟩
theorem Rn.Le.trans {a b c : Rn} (h : Rn.Le a b) (k : Rn.Le b c) : Rn.Le a c :=
  ⟨fun t ht => by obtain ⟨x1, x2, x3⟩ := h.tok t ht; obtain ⟨y1, y2, y3⟩ := k.tok t x1; exact ⟨y1, y2.trans x2, y3.trans x3⟩,
   fun d hd => by obtain ⟨x1, x2⟩ := h.cap d hd; obtain ⟨y1, y2⟩ := k.cap d x1; exact ⟨y1, y2.trans x2⟩⟩
section
variable {ρ ρ' : Rn} {m m' : AMem} {w w' w0 : World}
theorem Rn.Le.oD (l : Rn.Le ρ ρ') {o : Option Addr} (h : ρ.oD o) : ρ'.oD o ∧ o.map ρ'.a = o.map ρ.a := by
 cases o with
 | none => exact ⟨ρ'.oD_none, rfl⟩
 | some p =>
  obtain ⟨h1, h2, h3⟩ := l.tok _ (h p rfl)
  exact ⟨fun q hq => by cases hq; exact h1, by simp [Rn.a, h2, h3]⟩
theorem Rn.Le.cD (l : Rn.Le ρ ρ') {c : Nat} (h : ρ.cD c) : ρ'.cD c ∧ ρ'.c c = ρ.c c := by
 rcases h with h | h
 ·exact ⟨.inl h, by rw [ρ.c_lit h, ρ'.c_lit h]⟩
 ·obtain ⟨h1, h2⟩ := l.cap _ h
  exact ⟨.inr h1, by unfold Rn.c; rw [h2]⟩
theorem VR.mono (l : Rn.Le ρ ρ') {u v : Value} (h : VR ρ u v) : VR ρ' u v := by
 induction h with
 | bool b => exact .bool b
 | int k n => exact .int k n
 | string s => exact .string s
 | pointer o ho => obtain ⟨h1, h2⟩ := l.oD ho; rw [← h2]; exact .pointer o h1
 | slice o n c hl ho hc =>
  obtain ⟨h1, h2⟩ := l.oD ho
  obtain ⟨h3, h4⟩ := l.cD hc
  rw [← h2, ← h4]; exact .slice o n c (by rw [h4]; exact hl) h1 h3
 | empty a c => exact .empty a c
 | tail t o c a h1 hd hc =>
  obtain ⟨h2, h3⟩ := l.cD hc
  obtain ⟨h4, h5, h6⟩ := l.tok t hd
  rw [← h3]
  exact .tail t o c a (h1.imp (fun h => h3.trans h) fun h => by rw [h]; simp [Rn.a, h5, h6]) h4 h2
 | map o ho =>
  cases o with
  | none => exact .map none fun t h => by cases h
  | some t =>
   obtain ⟨h1, h2, _⟩ := l.tok t (ho t rfl)
   have := VR.map (ρ := ρ') (some t) fun t' h => by cases h; exact h1
   simpa [h2] using this
 | func f xs ys xs' ys' h1 h2 _ _ ih1 ih2 => exact .func f xs ys xs' ys' h1 h2 ih1 ih2
 | nilFunc => exact .nilFunc
 | nilIface => exact .nilIface
 | iface t u v _ ih => exact .iface t u v ih
 | agg xs ys h1 _ ih => exact .agg xs ys h1 ih
 | tuple xs ys h1 _ ih => exact .tuple xs ys h1 ih
theorem LR.mono (l : Rn.Le ρ ρ') {xs ys : List Value} (h : LR ρ xs ys) : LR ρ' xs ys := ⟨h.len, fun i u v a b => (h.at_ i u v a b).mono l⟩
theorem ER.mono (l : Rn.Le ρ ρ') {e e' : Env} (h : ER ρ e e') : ER ρ' e e' := fun t u ht => by obtain ⟨v, hv, r⟩ := h t u ht; exact ⟨v, hv, r.mono l⟩
def putO : List (Nat × AObj) → Nat → AObj → List (Nat × AObj)
 | [], t, o => [(t, o)]
 | (k, v) :: r, t, o => bif Nat.beq k t then (t, o) :: r else (k, v) :: putO r t o
theorem putO_same {l : List (Nat × AObj)} {t : Nat} {o : AObj} : look (putO l t o) t = some o := by
 induction l with
 | nil => simp [putO, look]
 | cons x r ih =>
  obtain ⟨k, v⟩ := x
  unfold putO
  cases hb : Nat.beq k t
  ·simp only [cond_false, look, hb]; exact ih
  ·simp [look]
theorem beq_ne {k t : Nat} (h : k ≠ t) : Nat.beq k t = false := by
 cases hb : Nat.beq k t with
 | true => exact absurd (Nat.eq_of_beq_eq_true hb) h
 | false => rfl
theorem putO_ne {l : List (Nat × AObj)} {t s : Nat} {o : AObj} (h : t ≠ s) : look (putO l t o) s = look l s := by
 induction l with
 | nil => simp [putO, look, beq_ne h]
 | cons x r ih =>
  obtain ⟨k, v⟩ := x
  unfold putO
  cases hb : Nat.beq k t
  ·simp only [cond_false, look]; rw [ih]
  ·have := Nat.eq_of_beq_eq_true hb
   subst this
   simp [look, beq_ne h]
def AMem.put (m : AMem) (t : Nat) (o : AObj) : AMem := { m with objs := putO m.objs t o, log := t :: m.log }
def AMem.kill (m : AMem) : Option Nat → AMem
 | none => m
 | some t => m.put t .dead
def AMem.fresh (m : AMem) (kill : Option Nat) (o : AObj) : AMem := { m.kill kill with objs := (m.next, o) :: (m.kill kill).objs, next := m.next + 1, caps := m.caps + 1 }
def AMem.new (m : AMem) (cs : List Value) (ty : Nat) : AMem := m.fresh none (.cells cs ty none)
def symI : Nat := 2147483648
def MapAt (ρ : Rn) (w : World) (r : Nat) (es : List (Value × Value)) (bs : List Nat) (clock : Nat) : Prop :=
 ∃ ents, w.heap[r]? = some (.map ents clock) ∧ ents.toList.map (·.key) = es.map (·.1) ∧ LR ρ (es.map (·.2)) (ents.toList.map (·.val)) ∧ ents.toList.map (·.born) = bs
def ObjAt (ρ : Rn) (w : World) (t : Nat) : AObj → Prop
 | .cells cs ty g => ∃ full : Array Value, BlkF w (ρ.blk t) full ty ∧ (∀ (i : Nat) (u : Value), cs[i]? = some u → ∃ v, full[ρ.off t + i]? = some v ∧ VR ρ u v) ∧ (match g with | some (s, sz) => ρ.cdom s ∧ full.size = ρ.off t + ρ.cap s * sz | none => ρ.off t = 0)
 | .amap es bs c => MapAt ρ w (ρ.blk t) es bs c
 | .iter mo since seen last => w.heap[ρ.blk t]? = some (.mapIter (mo.map ρ.blk) since seen.toArray last) ∧ ρ.off t = 0 ∧ ∀ k, mo = some k → ρ.dom k
 | .dead => True
structure Mem (w0 : World) (ρ : Rn) (m : AMem) (w : World) : Prop where
 x : Below w0.heap.size w0 w
 dom : ∀ t, ρ.dom t → t < m.next
 cdom : ∀ c, ρ.cdom c → c < symI + m.caps
 got : ∀ t o, m.get t = some o → o.live = true → ρ.dom t
 obj : ∀ t o, m.get t = some o → o.live = true → w0.heap.size ≤ ρ.blk t ∧ ρ.blk t < w.heap.size ∧ ObjAt ρ w t o
 apart : ∀ t t' o o', m.get t = some o → m.get t' = some o' → o.live = true → o'.live = true → ρ.blk t = ρ.blk t' → t = t'
structure Ev (w0 : World) (ρ : Rn) (m : AMem) (w : World) (ρ' : Rn) (m' : AMem) (w' : World) : Prop where
 le : Rn.Le ρ ρ'
 mem : Mem w0 ρ' m' w'
 next : m.next ≤ m'.next
 keep : ∃ l, m'.log = l ++ m.log ∧ ∀ t, t < m.next → t ∉ l → ∀ o, m.get t = some o → o.live = true → (∃ o', m'.get t = some o' ∧ o'.live = true) ∧ w'.heap[ρ.blk t]? = w.heap[ρ.blk t]?
theorem Ev.refl (h : Mem w0 ρ m w) : Ev w0 ρ m w ρ m w := ⟨Rn.Le.refl ρ, h, Nat.le_refl _, [], rfl, fun _ _ _ o hg hl => ⟨⟨o, hg, hl⟩, rfl⟩⟩
theorem Ev.trans {ρ1 : Rn} {m1 : AMem} {w1 : World} (hm : Mem w0 ρ m w) (h : Ev w0 ρ m w ρ1 m1 w1) (k : Ev w0 ρ1 m1 w1 ρ' m' w') : Ev w0 ρ m w ρ' m' w' := by
 obtain ⟨l1, e1, k1⟩ := h.keep
 obtain ⟨l2, e2, k2⟩ := k.keep
 refine ⟨h.le.trans k.le, k.mem, Nat.le_trans h.next k.next, l2 ++ l1, by rw [e2, e1, List.append_assoc], fun t ht hn o hg hl => ?_⟩
 rw [List.mem_append, not_or] at hn
 obtain ⟨⟨o1, a1, al⟩, a2⟩ := k1 t ht hn.2 o hg hl
 obtain ⟨b1, b2⟩ := k2 t (Nat.lt_of_lt_of_le ht h.next) hn.1 o1 a1 al
 refine ⟨b1, ?_⟩
 have hb := (h.le.tok t (hm.got t _ hg hl)).2.1
 rw [← a2, ← hb]
 exact b2
theorem Mem.c (h : Mem w0 ρ m w) : MemC ρ m w := fun t cs ty g hg i u hu => by
 obtain ⟨_, _, full, hb, hc, _⟩ := h.obj t _ hg rfl
 obtain ⟨v, hv, r⟩ := hc i u hu
 exact ⟨v, by rw [hb.cell]; exact hv, r⟩
theorem ObjAt.mono {t : Nat} {o : AObj} (l : Rn.Le ρ ρ') (hd : ρ.dom t) (h : ObjAt ρ w t o) (k : o.live = true → w'.heap[ρ.blk t]? = w.heap[ρ.blk t]?) : ObjAt ρ' w' t o := by
 obtain ⟨_, e1, e2⟩ := l.tok t hd
 cases o with
 | dead => trivial
 | cells cs ty g =>
  obtain ⟨full, hb, hc, hg⟩ := h
  refine ⟨full, by rw [e1]; exact hb.heap (k rfl), fun i u hu => ?_, ?_⟩
  ·obtain ⟨v, hv, r⟩ := hc i u hu
   exact ⟨v, by rw [e2]; exact hv, r.mono l⟩
  ·cases g with
   | none => exact e2.trans hg
   | some x =>
    obtain ⟨c1, c2⟩ := l.cap x.1 hg.1
    exact ⟨c1, by rw [e2, c2]; exact hg.2⟩
 | amap es bs c =>
  obtain ⟨ents, h1, h2, h3, h4⟩ := h
  exact ⟨ents, by rw [e1, k rfl]; exact h1, h2, h3.mono l, h4⟩
 | iter mo since seen last =>
  obtain ⟨h1, h0, h2⟩ := h
  have e3 : mo.map ρ'.blk = mo.map ρ.blk := by
   cases mo with
   | none => rfl
   | some j => simp only [Option.map_some, (l.tok j (h2 j rfl)).2.1]
  exact ⟨by rw [e1, k rfl, e3]; exact h1, e2.trans h0, fun k hk => (l.tok k (h2 k hk)).1⟩
def Rn.more (ρ : Rn) (t b off c cap : Nat) : Rn := { blk := fun s => if s = t then b else ρ.blk s, off := fun s => if s = t then off else ρ.off s, cap := fun s => if s = c then cap else ρ.cap s, dom := fun s => ρ.dom s ∨ s = t, cdom := fun s => ρ.cdom s ∨ s = c }
theorem Rn.more_le {t b off c cap : Nat} (h : ¬ ρ.dom t) (hc : ¬ ρ.cdom c) : Rn.Le ρ (ρ.more t b off c cap) := ⟨fun s hs => by
  have : s ≠ t := fun e => h (e ▸ hs)
  exact ⟨.inl hs, by simp [Rn.more, this], by simp [Rn.more, this]⟩, fun s hs => by
  have : s ≠ c := fun e => hc (e ▸ hs)
  exact ⟨.inl hs, by simp [Rn.more, this]⟩⟩
theorem Rn.more_a {t b off c cap : Nat} (ρ : Rn) : (ρ.more t b off c cap).a ⟨t, 0, none⟩ = ⟨b, off, none⟩ := by simp [Rn.a, Rn.more]
theorem Mem.fresh (h : Mem w0 ρ m w) {w1 : World} {kill : Option Nat} (hk : ∀ t0, kill = some t0 → ∃ o, m.get t0 = some o ∧ o.live = true) (hx : Below w0.heap.size w0 w1) (hs : w.heap.size ≤ w1.heap.size)
  (keep : ∀ k, k < w.heap.size → (∀ t0, kill = some t0 → k ≠ ρ.blk t0) → w1.heap[k]? = w.heap[k]?) {b off cap : Nat} (hb : b < w1.heap.size) (hb2 : w.heap.size ≤ b ∨ ∃ t0, kill = some t0 ∧ b = ρ.blk t0) {o' : AObj} (hl : o'.live = true)
  (ho : Rn.Le ρ (ρ.more m.next b off (symI + m.caps) cap) → ObjAt (ρ.more m.next b off (symI + m.caps) cap) w1 m.next o') : Ev w0 ρ m w (ρ.more m.next b off (symI + m.caps) cap) (m.fresh kill o') w1 := by
 have hn : ¬ ρ.dom m.next := fun hd => by have := h.dom _ hd; omega
 have hc : ¬ ρ.cdom (symI + m.caps) := fun hd => by have := h.cdom _ hd; omega
 have le := Rn.more_le (ρ := ρ) (t := m.next) (b := b) (off := off) (c := symI + m.caps) (cap := cap) hn hc
 have bN : (ρ.more m.next b off (symI + m.caps) cap).blk m.next = b := by simp [Rn.more]
 have bO : ∀ t, t ≠ m.next → (ρ.more m.next b off (symI + m.caps) cap).blk t = ρ.blk t := fun t ht => by simp [Rn.more, ht]
 have getK : ∀ t o, (m.kill kill).get t = some o → (m.get t = some o ∧ kill ≠ some t) ∨ (o = .dead ∧ kill = some t) := fun t o hg => by
  cases kill with
  | none => exact .inl ⟨hg, fun e => by cases e⟩
  | some t0 =>
   by_cases e : t0 = t
   ·subst e
    simp only [AMem.kill, AMem.get, AMem.put, putO_same, Option.some.injEq] at hg
    exact .inr ⟨hg.symm, rfl⟩
   ·simp only [AMem.kill, AMem.get, AMem.put, putO_ne e] at hg
    exact .inl ⟨hg, fun e2 => e (by cases e2; rfl)⟩
 have getN : ∀ t o, (m.fresh kill o').get t = some o → (t = m.next ∧ o = o') ∨ (t ≠ m.next ∧ m.get t = some o ∧ kill ≠ some t) ∨ (t ≠ m.next ∧ o = .dead ∧ kill = some t) := fun t o hg => by
  by_cases e : t = m.next
  ·subst e
   simp only [AMem.get, AMem.fresh, look, Nat.beq_refl, cond_true, Option.some.injEq] at hg
   exact .inl ⟨rfl, hg.symm⟩
  ·simp only [AMem.get, AMem.fresh, look, beq_ne (Ne.symm e), cond_false] at hg
   rcases getK t o hg with ⟨a, c⟩ | ⟨a, c⟩
   ·exact .inr (.inl ⟨e, a, c⟩)
   ·exact .inr (.inr ⟨e, a, c⟩)
 have other : ∀ t o, m.get t = some o → o.live = true → kill ≠ some t → w1.heap[ρ.blk t]? = w.heap[ρ.blk t]? := fun t o hg hlo hne => by
  obtain ⟨_, h2, _⟩ := h.obj t o hg hlo
  refine keep _ h2 fun t0 hk0 e => ?_
  obtain ⟨o0, g0, l0⟩ := hk t0 hk0
  exact hne (by rw [h.apart t t0 o o0 hg g0 hlo l0 e]; exact hk0)
 refine ⟨le, ⟨hx, fun t ht => ?_, fun c hc => ?_, fun t o hg hlo => ?_, fun t o hg hlo => ?_, fun t t' o1 o2 g1 g2 l1 l2 e => ?_⟩, Nat.le_succ _, (match kill with | some t0 => [t0] | none => []), by cases kill <;> rfl, fun t ht hnl o hg hlo => ?_⟩
 ·rcases ht with ht | ht
  ·exact Nat.lt_succ_of_lt (h.dom t ht)
  ·subst ht; exact Nat.lt_succ_self _
 ·rcases hc with hc | hc
  ·exact Nat.lt_succ_of_lt (h.cdom c hc)
  ·subst hc; exact Nat.lt_succ_self _
 ·rcases getN t o hg with ⟨e, _⟩ | ⟨_, hg, _⟩ | ⟨_, e, _⟩
  ·exact .inr e
  ·exact .inl (h.got t o hg hlo)
  ·rw [e] at hlo; cases hlo
 ·rcases getN t _ hg with ⟨rfl, rfl⟩ | ⟨hne, hg, hnk⟩ | ⟨_, rfl, _⟩
  ·rw [bN]
   refine ⟨?_, hb, ho le⟩
   have := h.x.size
   rcases hb2 with h2 | ⟨t0, e0, rfl⟩
   ·omega
   ·obtain ⟨o0, g0, l0⟩ := hk t0 e0; exact (h.obj t0 o0 g0 l0).1
  ·obtain ⟨h1, h2, h3⟩ := h.obj t o hg hlo
   rw [bO t hne]
   exact ⟨h1, by omega, h3.mono le (h.got t o hg hlo) fun _ => other t o hg hlo hnk⟩
  ·cases hlo
 ·have key : ∀ t o, m.get t = some o → o.live = true → kill ≠ some t → ρ.blk t = b → False := fun t o hg hlo hnk e => by
   obtain ⟨_, h2, _⟩ := h.obj t o hg hlo
   rcases hb2 with h3 | ⟨t0, e0, rfl⟩
   ·omega
   ·obtain ⟨o0, g0, l0⟩ := hk t0 e0
    exact hnk (by rw [h.apart t t0 o o0 hg g0 hlo l0 e]; exact e0)
  rcases getN t _ g1 with ⟨rfl, _⟩ | ⟨n1, g1, k1⟩ | ⟨_, rfl, _⟩
  ·rcases getN t' _ g2 with ⟨rfl, _⟩ | ⟨n2, g2, k2⟩ | ⟨_, rfl, _⟩
   ·rfl
   ·rw [bN, bO _ n2] at e; exact (key _ _ g2 l2 k2 e.symm).elim
   ·cases l2
  ·rcases getN t' _ g2 with ⟨rfl, _⟩ | ⟨n2, g2, k2⟩ | ⟨_, rfl, _⟩
   ·rw [bN, bO _ n1] at e; exact (key _ _ g1 l1 k1 e).elim
   ·rw [bO _ n1, bO _ n2] at e; exact h.apart t t' _ _ g1 g2 l1 l2 e
   ·cases l2
  ·cases l1
 ·have hne : m.next ≠ t := by omega
  have hnk : kill ≠ some t := fun e => by subst e; exact hnl (by simp)
  refine ⟨⟨o, ?_, hlo⟩, other t o hg hlo hnk⟩
  rw [← hg]
  simp only [AMem.get, AMem.fresh, look, beq_ne hne, cond_false]
  cases kill with
  | none => rfl
  | some t0 => simp only [AMem.kill, AMem.put]; exact putO_ne fun e => hnk (by rw [e])
theorem Mem.new (h : Mem w0 ρ m w) {cs vs : List Value} (r : LR ρ cs vs) (ty : Nat) {F : Addr → World → Prop} (k : ∀ ρ' w', Ev w0 ρ m w ρ' (m.new cs ty) w' → ρ'.dom m.next → F (ρ'.a ⟨m.next, 0, none⟩) w') : AllocK w vs.toArray ty F := by
 refine AllocK.mk fun b w1 hb hB hx => ?_
 have hsz : w0.heap.size ≤ w.heap.size := h.x.size
 have fin := k _ w1 (h.fresh (kill := none) (o' := .cells cs ty none) (b := b) (off := 0) (cap := 0) (fun t0 e => by cases e) (Below.trans h.x (hx.mono hsz)) hx.size (fun kk hk _ => hx.block kk hk) hB.lt (.inl (Nat.le_of_eq hb.symm)) rfl fun le => ⟨_, by simpa [Rn.more] using hB.f, fun i u hu => by
  obtain ⟨v, hv, rv⟩ := r.get hu
  exact ⟨v, by simpa [Rn.more] using hv, rv.mono le⟩, by simp [Rn.more]⟩) (.inr rfl)
 rw [Rn.more_a] at fin; exact fin
theorem Mem.put (h : Mem w0 ρ m w) {w1 : World} {b : Nat} {o o' : AObj} (hg : m.get b = some o) (hl : o.live = true) (but : But (ρ.blk b) w w1) (hx : o'.live = true → ObjAt ρ w1 b o') : Ev w0 ρ m w ρ (m.put b o') w1 := by
 obtain ⟨h1, h2, h3⟩ := h.obj b o hg hl
 have g1 : (m.put b o').get b = some o' := putO_same
 have g2 : ∀ t, b ≠ t → (m.put b o').get t = m.get t := fun t ht => putO_ne ht
 have key : ∀ t q, (m.put b o').get t = some q → q.live = true → ∃ q', m.get t = some q' ∧ q'.live = true := fun t q hq hlq => by
  by_cases e : b = t
  ·subst e; exact ⟨_, hg, hl⟩
  ·rw [g2 t e] at hq; exact ⟨_, hq, hlq⟩
 refine ⟨Rn.Le.refl ρ, ⟨but.below h.x h1, h.dom, h.cdom, fun t q hq hlq => ?_, fun t q hq hlq => ?_, fun t t' q1 q2 e1 e2 l1 l2 e => ?_⟩, Nat.le_refl _, [b], rfl, fun t ht hn q hq hlq => ?_⟩
 ·by_cases e : b = t
  ·subst e; exact h.got _ _ hg hl
  ·rw [g2 t e] at hq; exact h.got _ _ hq hlq
 ·by_cases e : b = t
  ·subst e
   rw [g1] at hq
   cases hq
   exact ⟨h1, by rw [but.size]; exact h2, hx hlq⟩
  ·rw [g2 t e] at hq
   obtain ⟨k1, k2, k3⟩ := h.obj t q hq hlq
   exact ⟨k1, by rw [but.size]; exact k2, k3.mono (Rn.Le.refl ρ) (h.got t q hq hlq) fun _ => but.block _ fun e2 => e (h.apart _ _ _ _ hg hq hl hlq e2.symm)⟩
 ·obtain ⟨_, f1, f2⟩ := key _ _ e1 l1
  obtain ⟨_, f3, f4⟩ := key _ _ e2 l2
  exact h.apart t t' _ _ f1 f3 f2 f4 e
 ·have hbt : b ≠ t := fun e => hn (by simp [e])
  exact ⟨⟨q, (g2 t hbt).trans hq, hlq⟩, but.block _ fun e2 => hbt (h.apart _ _ _ _ hg hq hl hlq e2.symm)⟩
def setE (m : AMem) (p : Addr) (u : Value) : Option AMem :=
 match p.spot with
 | some _ => none
 | none => match m.get p.block with
  | some (.cells cs ty g) => match Nat.blt p.off cs.length with
   | true => some (m.put p.block (.cells (cs.set p.off u) ty g))
   | false => none
  | _ => none
theorem Mem.set (h : Mem w0 ρ m w) {p : Addr} {u v : Value} (hs : setE m p u = some m') (r : VR ρ u v) {F : World → Prop} (k : ∀ w', Ev w0 ρ m w ρ m' w' → F w') : SetK w (ρ.a p) v F := by
 obtain ⟨b, o, s⟩ := p
 unfold setE at hs
 split at hs
 ·cases hs
 rename_i hsp
 have hsp : s = none := hsp
 subst hsp
 split at hs
 ·rename_i cs ty g hg
  have hg : m.get b = some (.cells cs ty g) := hg
  split at hs
  ·rename_i ho
   have ho : o < cs.length := Nat.le_of_ble_eq_true ho
   cases hs
   obtain ⟨h1, _, full, h2, h3, h4⟩ := h.obj b _ hg rfl
   have hfl : ρ.off b + o < full.size := by
    obtain ⟨v0, hv0, _⟩ := h3 o _ (List.getElem?_eq_getElem ho)
    exact (Array.getElem?_eq_some_iff.1 hv0).1
   show SetK w ⟨ρ.blk b, ρ.off b + o, none⟩ v F
   refine SetK.mkF h2 hfl fun w1 hB but => k w1 (h.put hg rfl but fun _ => ⟨_, hB, fun i x hx => ?_, ?_⟩)
   ·rw [List.getElem?_set] at hx
    rw [Array.getElem?_setIfInBounds]
    by_cases e : o = i
    ·subst e
     rw [if_pos rfl, if_pos ho] at hx
     cases hx
     exact ⟨v, by rw [if_pos rfl, if_pos hfl], r⟩
    ·rw [if_neg e] at hx
     rw [if_neg (show ¬ ρ.off b + o = ρ.off b + i by omega)]
     exact h3 i x hx
   ·cases g with
    | none => trivial
    | some x => exact ⟨h4.1, by rw [Array.size_setIfInBounds]; exact h4.2⟩
  ·cases hs
 ·cases hs
end
end Go.V
