/- A part of the proof: plain forms of functions and laws about them. -/
import Derived.Test.YtnmldggopnbclaaGreatDoorGrliAk
import Derived.Laws.BytesString
import Derived.Lib.ItoaNum
namespace Go.V
open Go.RowKit (Below)
def bl (s : ByteArray) : List UInt8 := s.data.toList
theorem bl_append (a b : ByteArray) : bl (a ++ b) = bl a ++ bl b := by simp [bl]
theorem bl_size (s : ByteArray) : (bl s).length = s.size := by simp [bl]
theorem bl_mk (l : Array UInt8) : bl ⟨l⟩ = l.toList := rfl
theorem bl_inj {a b : ByteArray} (h : bl a = bl b) : a = b := by
 obtain ⟨⟨x⟩⟩ := a
 obtain ⟨⟨y⟩⟩ := b
 simp [bl] at h
 rw [h]
theorem bl_get (s : ByteArray) (i : Nat) : s[i]? = (bl s)[i]? := by
 by_cases h : i < s.size
 ·have h2 : i < (bl s).length := by rw [bl_size]; exact h
  rw [getElem?_pos s i h, List.getElem?_eq_getElem h2]
  simp only [bl, Array.getElem_toList]; rfl
 ·have h2 : (bl s).length ≤ i := by rw [bl_size]; omega
  rw [getElem?_neg s i h, List.getElem?_eq_none h2]
theorem bl_toList (s : ByteArray) : s.toList = bl s := ByteArray.toList_eq s
theorem bl_eq (s t : ByteArray) : (s.toList == t.toList) = decide (bl s = bl t) := by
 rw [bl_toList, bl_toList]
 by_cases h : bl s = bl t
 ·simp [h]
 ·simp [h]
theorem bl_extract (s : ByteArray) (i j : Nat) : bl (s.extract i j) = (bl s).extract i j := by
 simp [bl]
theorem run_byteString {P : Program} {src dst e : TypeId} {w : World} {b : Nat} {x : Int} {t : Nat} (hs : P.underlying src = some (.slice e)) (he : P.underlying e = some (.int .u8)) (hd : P.underlying dst = some .string) (hb : Blk w b #[.int .u8 x] t) :
  Sem.run P (convert src dst (.slice (some ⟨b, 0, none⟩) 1 1)) w = .ok (.string ⟨#[UInt8.ofNat x.toNat]⟩) w := by
 rw [run_convert_bytes_string w src dst e _ 1 1 hs he hd]
 have := run_loadCells_list (P := P) (w := w) ⟨b, 0, none⟩ [.int .u8 x] (fun j v hj => by
  rw [add_mk, Nat.zero_add, hb.cell]; simpa using hj)
 exact run_bytesToString w _ 1 1 [x] this
/-! ### Digits -/
def isD (c : UInt8) : Prop := 48 ≤ c.toNat ∧ c.toNat ≤ 57
def valL (l : List UInt8) : Nat := l.foldl (fun n c => 10 * n + (c.toNat - 48)) 0
def seg (s : ByteArray) (i k : Nat) : List UInt8 := ((bl s).drop i).take k
structure Digs (s : ByteArray) (i k : Nat) (n : Nat) : Prop where
 le : i + k ≤ s.size
 all : ∀ c ∈ seg s i k, isD c
 val : n = valL (seg s i k)
end Go.V

namespace Go.V.Gr
open Go Go.V
abbrev Ft := Int × ByteArray
structure Nd where
 kd : ByteArray
 n : Int
 tx : ByteArray
 fs : List Ft
 ks : List Int
 deriving Inhabited
def Nd.hd (x : Nd) : ByteArray × Int × ByteArray × List Ft × Nat := (x.kd, x.n, x.tx, x.fs, x.ks.length)
def nd (l : List Nd) (i : Nat) : Nd := l[i]?.getD ⟨⟨#[]⟩, 0, ⟨#[]⟩, [], []⟩
def kid (l : List Nd) (i m : Nat) : Nat := ((nd l i).ks[m]?.getD 0).toNat
def kids (l : List Nd) (i : Nat) : List Nat := (nd l i).ks.map Int.toNat
def Closed (l : List Nd) : Prop := ∀ x ∈ l, ∀ k ∈ x.ks, 0 ≤ k ∧ k < l.length
def EqK (l l' : List Nd) : Nat → Nat → Nat → Prop
 | 0, i, j => (nd l i).hd = (nd l' j).hd
 | d + 1, i, j => (nd l i).hd = (nd l' j).hd ∧ ∀ m, m < (nd l i).ks.length → EqK l l' d (kid l i m) (kid l' j m)
def Eqv (l l' : List Nd) (i j : Nat) : Prop := ∀ d, EqK l l' d i j
section
variable {l l' l'' : List Nd} {i j k : Nat}
theorem nd_get {i : Nat} (h : i < l.length) : nd l i = l[i] := by rw [nd, List.getElem?_eq_getElem h]; rfl
theorem hd_len {x y : Nd} (h : x.hd = y.hd) : x.ks.length = y.ks.length := by
 simp only [Nd.hd, Prod.mk.injEq] at h; exact h.2.2.2.2
theorem EqK.head {d : Nat} (h : EqK l l' d i j) : (nd l i).hd = (nd l' j).hd := by
 cases d with
 | zero => exact h
 | succ d => exact h.1
theorem EqK.refl (l : List Nd) : ∀ d i, EqK l l d i i
 | 0, _ => rfl
 | d + 1, _ => ⟨rfl, fun _ _ => EqK.refl l d _⟩
theorem EqK.symm : ∀ {d i j}, EqK l l' d i j → EqK l' l d j i
 | 0, _, _, h => Eq.symm (α := _ × _) h
 | d + 1, _, _, h => ⟨h.1.symm, fun m hm => (h.2 m (by rw [hd_len h.1]; exact hm)).symm⟩
theorem EqK.trans : ∀ {d i j k}, EqK l l' d i j → EqK l' l'' d j k → EqK l l'' d i k
 | 0, _, _, _, h, h2 => Eq.trans (α := _ × _) h h2
 | d + 1, _, _, _, h, h2 => ⟨h.1.trans h2.1, fun m hm => (h.2 m hm).trans (h2.2 m (by rw [← hd_len h.1]; exact hm))⟩
theorem Eqv.refl (l : List Nd) (i : Nat) : Eqv l l i i := fun d => EqK.refl l d i
theorem Eqv.symm (h : Eqv l l' i j) : Eqv l' l j i := fun d => (h d).symm
theorem Eqv.trans (h : Eqv l l' i j) (h2 : Eqv l' l'' j k) : Eqv l l'' i k := fun d => (h d).trans (h2 d)
theorem Eqv.head (h : Eqv l l' i j) : (nd l i).hd = (nd l' j).hd := h 0
theorem Eqv.kid {m : Nat} (h : Eqv l l' i j) (hm : m < (nd l i).ks.length) : Eqv l l' (kid l i m) (Gr.kid l' j m) := fun d => (h (d + 1)).2 m hm
theorem Eqv.mk (h : (nd l i).hd = (nd l' j).hd) (h2 : ∀ m, m < (nd l i).ks.length → Eqv l l' (Gr.kid l i m) (Gr.kid l' j m)) : Eqv l l' i j
 | 0 => h
 | d + 1 => ⟨h, fun m hm => h2 m hm d⟩
theorem Eqv.coind (R : Nat → Nat → Prop) (h : ∀ i j, R i j → (nd l i).hd = (nd l' j).hd ∧ ∀ m, m < (nd l i).ks.length → R (Gr.kid l i m) (Gr.kid l' j m)) (hr : R i j) : Eqv l l' i j := by
 intro d
 induction d generalizing i j with
 | zero => exact (h i j hr).1
 | succ d ih => exact ⟨(h i j hr).1, fun m hm => ih ((h i j hr).2 m hm)⟩
theorem Eqv.map (f : Nat → Nat) (P : Nat → Prop) (h : ∀ i, P i → (nd l i).hd = (nd l' (f i)).hd ∧ ∀ m, m < (nd l i).ks.length → P (Gr.kid l i m) ∧ Gr.kid l' (f i) m = f (Gr.kid l i m)) (hi : P i) : Eqv l l' i (f i) :=
 Eqv.coind (fun i j => P i ∧ j = f i) (by rintro i j ⟨hp, rfl⟩; exact ⟨(h i hp).1, fun m hm => ⟨((h i hp).2 m hm).1, ((h i hp).2 m hm).2⟩⟩) ⟨hi, rfl⟩
theorem kid_lt (h : Closed l) (hi : i < l.length) {m : Nat} (hm : m < (nd l i).ks.length) : Gr.kid l i m < l.length := by
 rw [nd_get hi] at hm
 have := h _ (List.getElem_mem hi) _ (List.getElem_mem hm)
 rw [Gr.kid, nd_get hi, List.getElem?_eq_getElem hm, Option.getD_some]; omega
theorem kids_len : (kids l i).length = (nd l i).ks.length := by simp [kids]
theorem kids_get {m : Nat} (hm : m < (nd l i).ks.length) : (kids l i)[m]? = some (Gr.kid l i m) := by
 rw [kids, List.getElem?_map, Gr.kid, List.getElem?_eq_getElem hm]; rfl
/-! ### Classes -/
def Cls (l : List Nd) (c : List Int) : Prop := c.length = l.length ∧ ∀ i j, i < l.length → j < l.length → (c[i]?.getD 0 = c[j]?.getD 0 ↔ Eqv l l i j)
/-! ### Least graphs -/
def Seen (l : List Nd) (vs : List Nat) (i : Nat) : Prop := ∃ v ∈ vs, Eqv l l v i
inductive Dfs (l : List Nd) : List Nat → List Nat → List Nat → Prop
 | nil (vs : List Nat) : Dfs l [] vs vs
 | hit {i : Nat} {ks vs vs' : List Nat} : Seen l vs i → Dfs l ks vs vs' → Dfs l (i :: ks) vs vs'
 | new {i : Nat} {ks vs v1 v2 : List Nat} : ¬ Seen l vs i → Dfs l (kids l i) (vs ++ [i]) v1 → Dfs l ks v1 v2 → Dfs l (i :: ks) vs v2
theorem Dfs.det {ks vs a b : List Nat} (h : Dfs l ks vs a) (h2 : Dfs l ks vs b) : a = b := by
 induction h generalizing b with
 | nil vs => cases h2; rfl
 | hit hs _ ih =>
  cases h2 with
  | hit _ h2 => exact ih h2
  | new hn _ _ => exact absurd hs hn
 | new hn _ _ ih1 ih2 =>
  cases h2 with
  | hit hs _ => exact absurd hs hn
  | new _ h3 h4 => have := ih1 h3; subst this; exact ih2 h4
theorem Dfs.append {ks ks2 vs v1 v2 : List Nat} (h : Dfs l ks vs v1) (h2 : Dfs l ks2 v1 v2) : Dfs l (ks ++ ks2) vs v2 := by
 induction h with
 | nil vs => exact h2
 | hit hs _ ih => exact .hit hs (ih h2)
 | new hn h1 _ _ ih => exact .new hn h1 (ih h2)
theorem Dfs.grow {ks vs vs' : List Nat} (h : Dfs l ks vs vs') : ∃ t, vs' = vs ++ t := by
 induction h with
 | nil vs => exact ⟨[], by simp⟩
 | hit _ _ ih => exact ih
 | new _ _ _ ih1 ih2 =>
  obtain ⟨t1, rfl⟩ := ih1
  obtain ⟨t2, rfl⟩ := ih2
  exact ⟨_, by rw [List.append_assoc, List.append_assoc]⟩
theorem Seen.grow {vs t : List Nat} (h : Seen l vs i) : Seen l (vs ++ t) i := by
 obtain ⟨v, hv, e⟩ := h
 exact ⟨v, List.mem_append_left _ hv, e⟩
def Apart (l : List Nd) (vs : List Nat) : Prop := ∀ (a b x y : Nat), vs[a]? = some x → vs[b]? = some y → Eqv l l x y → a = b
theorem Apart.push {vs : List Nat} (h : Apart l vs) (hn : ¬ Seen l vs i) : Apart l (vs ++ [i]) := by
 intro a b x y ha hb e
 have key : ∀ {a : Nat} {x : Nat}, (vs ++ [i])[a]? = some x → (a < vs.length ∧ vs[a]? = some x) ∨ (a = vs.length ∧ x = i) := by
  intro a x ha
  rcases Nat.lt_or_ge a vs.length with h1 | h1
  ·rw [List.getElem?_append_left h1] at ha; exact .inl ⟨h1, ha⟩
  ·rw [List.getElem?_append_right h1] at ha
   have h2 : a - vs.length < 1 := (List.getElem?_eq_some_iff.1 ha).1
   have : a - vs.length = 0 := by omega
   rw [this] at ha
   simp at ha
   exact .inr ⟨by omega, ha.symm⟩
 rcases key ha with ⟨a1, a2⟩ | ⟨a1, rfl⟩
 ·rcases key hb with ⟨b1, b2⟩ | ⟨b1, rfl⟩
  ·exact h a b x y a2 b2 e
  ·exact absurd ⟨x, List.mem_of_getElem? a2, e⟩ hn
 ·rcases key hb with ⟨b1, b2⟩ | ⟨b1, rfl⟩
  ·exact absurd ⟨y, List.mem_of_getElem? b2, e.symm⟩ hn
  ·omega
theorem Dfs.apart {ks vs vs' : List Nat} (h : Dfs l ks vs vs') (ha : Apart l vs) : Apart l vs' := by
 induction h with
 | nil vs => exact ha
 | hit _ _ ih => exact ih ha
 | new hn _ _ ih1 ih2 => exact ih2 (ih1 (ha.push hn))
theorem Dfs.lt {ks vs vs' : List Nat} (h : Dfs l ks vs vs') (hc : Closed l) (hk : ∀ k ∈ ks, k < l.length) (hv : ∀ v ∈ vs, v < l.length) : ∀ v ∈ vs', v < l.length := by
 induction h with
 | nil vs => exact hv
 | hit _ _ ih => exact ih (fun k h => hk k (List.mem_cons_of_mem _ h)) hv
 | @new i ks vs v1 v2 hn h1 h2 ih1 ih2 =>
  refine ih2 (fun k h => hk k (List.mem_cons_of_mem _ h)) (ih1 (fun k h => ?_) (fun v h => ?_))
  ·have hi : i < l.length := hk i (by simp)
   obtain ⟨m, hm⟩ := List.getElem?_of_mem h
   have h2 : m < (kids l i).length := (List.getElem?_eq_some_iff.1 hm).1
   rw [kids_len] at h2
   rw [kids_get h2] at hm; cases hm
   exact kid_lt hc hi h2
  ·rcases List.mem_append.1 h with h | h
   ·exact hv v h
   ·simp at h; subst h; exact hk v (by simp)
structure IsG (l : List Nd) (vs : List Nat) (out : List Nd) : Prop where
 len : out.length = vs.length
 hd : ∀ q (h : q < vs.length), (nd out q).hd = (nd l vs[q]).hd
 ks : ∀ q (h : q < vs.length) m, m < (nd out q).ks.length → ∃ p, (nd out q).ks[m]? = some ((p : Nat) : Int) ∧ ∃ hp : p < vs.length, Eqv l l vs[p] (Gr.kid l vs[q] m)
def Least (l : List Nd) (i : Nat) (out : List Nd) : Prop := ∃ vs, Dfs l [i] [] vs ∧ IsG l vs out
theorem nd_ext {x y : Nd} (h : x.hd = y.hd) (h2 : ∀ m, m < x.ks.length → x.ks[m]? = y.ks[m]?) : x = y := by
 obtain ⟨a, b, c, d, e⟩ := x
 obtain ⟨a', b', c', d', e'⟩ := y
 simp only [Nd.hd, Prod.mk.injEq] at h
 obtain ⟨rfl, rfl, rfl, rfl, hl⟩ := h
 have : e = e' := by
  apply List.ext_getElem?
  intro m
  rcases Nat.lt_or_ge m e.length with h | h
  ·exact h2 m h
  ·rw [List.getElem?_eq_none h, List.getElem?_eq_none (by omega)]
 rw [this]
def Like (l l' : List Nd) (vs us : List Nat) : Prop := vs.length = us.length ∧ ∀ (a x y : Nat), vs[a]? = some x → us[a]? = some y → Eqv l l' x y
theorem Like.nil : Like l l' [] [] := ⟨rfl, fun a x y h => by simp at h⟩
theorem Like.push {vs us : List Nat} (h : Like l l' vs us) (e : Eqv l l' i j) : Like l l' (vs ++ [i]) (us ++ [j]) := by
 refine ⟨by simp [h.1], fun a x y ha hb => ?_⟩
 rcases Nat.lt_or_ge a vs.length with h1 | h1
 ·rw [List.getElem?_append_left h1] at ha
  rw [List.getElem?_append_left (by rw [← h.1]; exact h1)] at hb
  exact h.2 a x y ha hb
 ·rw [List.getElem?_append_right h1] at ha
  rw [List.getElem?_append_right (by rw [← h.1]; exact h1)] at hb
  have h2 : a - vs.length < 1 := (List.getElem?_eq_some_iff.1 ha).1
  have h3 : a - vs.length = 0 := by omega
  have h4 : a - us.length = 0 := by rw [← h.1]; exact h3
  rw [h3] at ha; rw [h4] at hb
  simp at ha hb
  subst ha; subst hb; exact e
theorem Like.seen {vs us : List Nat} (h : Like l l' vs us) (e : Eqv l l' i j) : Seen l vs i ↔ Seen l' us j := by
 constructor
 ·rintro ⟨v, hv, ev⟩
  obtain ⟨a, ha⟩ := List.getElem?_of_mem hv
  have h1 : a < us.length := by rw [← h.1]; exact (List.getElem?_eq_some_iff.1 ha).1
  have h2 := List.getElem?_eq_getElem h1
  exact ⟨us[a], List.getElem_mem h1, ((h.2 a _ _ ha h2).symm.trans ev).trans e⟩
 ·rintro ⟨v, hv, ev⟩
  obtain ⟨a, ha⟩ := List.getElem?_of_mem hv
  have h1 : a < vs.length := by rw [h.1]; exact (List.getElem?_eq_some_iff.1 ha).1
  have h2 := List.getElem?_eq_getElem h1
  exact ⟨vs[a], List.getElem_mem h1, ((h.2 a _ _ h2 ha).trans ev).trans e.symm⟩
theorem Like.kids (e : Eqv l l' i j) : Like l l' (kids l i) (Gr.kids l' j) := by
 refine ⟨by rw [kids_len, kids_len, hd_len e.head], fun a x y ha hb => ?_⟩
 have h1 : a < (Gr.kids l i).length := (List.getElem?_eq_some_iff.1 ha).1
 rw [kids_len] at h1
 rw [kids_get h1] at ha
 rw [kids_get (by rw [← hd_len e.head]; exact h1)] at hb
 cases ha; cases hb
 exact e.kid h1
theorem Like.cons {ks js : List Nat} (h : Like l l' (i :: ks) js) : ∃ j ks', js = j :: ks' ∧ Eqv l l' i j ∧ Like l l' ks ks' := by
 obtain ⟨h1, h2⟩ := h
 cases js with
 | nil => simp at h1
 | cons j ks' => exact ⟨j, ks', rfl, h2 0 i j rfl rfl, by simpa using h1, fun a x y ha hb => h2 (a + 1) x y (by simpa using ha) (by simpa using hb)⟩
theorem Dfs.like {ks vs vs' : List Nat} (h : Dfs l ks vs vs') : ∀ {js us : List Nat}, Like l l' ks js → Like l l' vs us → ∃ us', Dfs l' js us us' ∧ Like l l' vs' us' := by
 induction h with
 | nil vs =>
  intro js us h1 h2
  have : js = [] := List.length_eq_zero_iff.1 h1.1.symm
  subst this
  exact ⟨us, .nil _, h2⟩
 | hit hs _ ih =>
  intro js us h1 h2
  obtain ⟨j, ks', rfl, e, h3⟩ := h1.cons
  obtain ⟨us', h4, h5⟩ := ih h3 h2
  exact ⟨us', .hit ((h2.seen e).1 hs) h4, h5⟩
 | new hn _ _ ih1 ih2 =>
  intro js us h1 h2
  obtain ⟨j, ks', rfl, e, h3⟩ := h1.cons
  obtain ⟨u1, h4, h5⟩ := ih1 (Like.kids e) (h2.push e)
  obtain ⟨u2, h6, h7⟩ := ih2 h3 h5
  exact ⟨u2, .new (fun hs => hn ((h2.seen e).2 hs)) h4 h6, h7⟩
theorem IsG.uniq {vs us : List Nat} {out out' : List Nd} (h : IsG l vs out) (h' : IsG l' us out') (hl : Like l l' vs us) (ha : Apart l vs) : out = out' := by
 have hlen : out.length = out'.length := by rw [h.len, h'.len, hl.1]
 apply List.ext_getElem hlen
 intro q h1 h2
 have hq : q < vs.length := by rw [← h.len]; exact h1
 have hq' : q < us.length := by rw [← h'.len]; exact h2
 rw [← nd_get h1, ← nd_get h2]
 have eq : Eqv l l' vs[q] us[q] := hl.2 q _ _ (List.getElem?_eq_getElem hq) (List.getElem?_eq_getElem hq')
 have hh : (nd out q).hd = (nd out' q).hd := by rw [h.hd q hq, h'.hd q hq']; exact eq.head
 refine nd_ext hh fun m hm => ?_
 obtain ⟨p, e1, hp, e2⟩ := h.ks q hq m hm
 obtain ⟨p', e1', hp', e2'⟩ := h'.ks q hq' m (by rw [← hd_len hh]; exact hm)
 have hm2 : m < (nd l vs[q]).ks.length := by rw [← hd_len (h.hd q hq)]; exact hm
 have ek := eq.kid hm2
 have ep' : Eqv l l' (vs[p']'(by rw [hl.1]; exact hp')) us[p'] := hl.2 p' _ _ (List.getElem?_eq_getElem (by rw [hl.1]; exact hp')) (List.getElem?_eq_getElem hp')
 have : p = p' := ha p p' _ _ (List.getElem?_eq_getElem hp) (List.getElem?_eq_getElem (by rw [hl.1]; exact hp')) ((e2.trans ek).trans (ep'.trans e2').symm)
 rw [e1, e1', this]
theorem Least.uniq {out out' : List Nd} (h : Least l i out) (h' : Least l' j out') (e : Eqv l l' i j) : out = out' := by
 obtain ⟨vs, d, g⟩ := h
 obtain ⟨us, d', g'⟩ := h'
 obtain ⟨us2, d2, lk⟩ := d.like (l' := l') (js := [j]) (us := []) (Like.nil.push e) Like.nil
 have := d2.det d'
 subst this
 exact g.uniq g' lk (d.apart fun a b x y ha => by simp at ha)
theorem Dfs.first {i : Nat} {vs : List Nat} (h : Dfs l [i] [] vs) : ∃ t, vs = i :: t := by
 cases h with
 | hit hs _ => obtain ⟨v, hv, _⟩ := hs; cases hv
 | new _ h1 h2 =>
  cases h2
  obtain ⟨t, rfl⟩ := h1.grow
  exact ⟨t, rfl⟩
theorem IsG.eqv {vs : List Nat} {out : List Nd} (h : IsG l vs out) {q : Nat} (hq : q < vs.length) : Eqv out l q vs[q] := by
 refine Eqv.coind (fun a b => ∃ h : a < vs.length, Eqv l l vs[a] b) (fun a b hab => ?_) ⟨hq, Eqv.refl _ _⟩
 obtain ⟨ha, e⟩ := hab
 refine ⟨(h.hd a ha).trans e.head, fun m hm => ?_⟩
 obtain ⟨p, e1, hp, e2⟩ := h.ks a ha m hm
 have : Gr.kid out a m = p := by rw [Gr.kid, e1]; simp
 rw [this]
 exact ⟨hp, e2.trans (e.kid (by rw [← hd_len (h.hd a ha)]; exact hm))⟩
theorem Least.eqv {out : List Nd} (h : Least l i out) : Eqv out l 0 i := by
 obtain ⟨vs, d, g⟩ := h
 obtain ⟨t, rfl⟩ := d.first
 exact g.eqv (q := 0) (by simp)
theorem Least.pos {out : List Nd} (h : Least l i out) : 0 < out.length := by
 obtain ⟨vs, d, g⟩ := h
 obtain ⟨t, rfl⟩ := d.first
 rw [g.len]; simp
theorem Least.closed {out : List Nd} (h : Least l i out) : Closed out := by
 obtain ⟨vs, d, g⟩ := h
 intro x hx k hk
 obtain ⟨q, hq, rfl⟩ := List.getElem_of_mem hx
 obtain ⟨m, hm, rfl⟩ := List.getElem_of_mem hk
 have hq' : q < vs.length := by rw [← g.len]; exact hq
 obtain ⟨p, e1, hp, _⟩ := g.ks q hq' m (by rw [nd_get hq]; exact hm)
 rw [nd_get hq, List.getElem?_eq_getElem hm] at e1
 simp only [Option.some.injEq] at e1
 rw [e1, g.len]; omega
theorem Least.node {out : List Nd} (h : Least l i out) (hc : Closed l) (hi : i < l.length) {q : Nat} (hq : q < out.length) : ∃ v, v < l.length ∧ Eqv out l q v := by
 obtain ⟨vs, d, g⟩ := h
 have hq' : q < vs.length := by rw [← g.len]; exact hq
 exact ⟨vs[q], d.lt hc (by simpa using hi) (by simp) _ (List.getElem_mem hq'), g.eqv hq'⟩
theorem Least.iff {out out' : List Nd} (h : Least l i out) (h' : Least l' j out') : out = out' ↔ Eqv l l' i j :=
 ⟨fun e => by subst e; exact h.eqv.symm.trans h'.eqv, h.uniq h'⟩
end
end Go.V.Gr

namespace Go.V.Gr
open Go Go.V
theorem len_le_of_sub : ∀ (a b : List Nat), a.Nodup → (∀ x ∈ a, x ∈ b) → a.length ≤ b.length
 | [], _, _, _ => by simp
 | x :: a, b, hn, hs => by
  rw [List.nodup_cons] at hn
  have hx : x ∈ b := hs x (by simp)
  have h1 := len_le_of_sub a (b.erase x) hn.2 fun y hy => by
   have hne : y ≠ x := fun e => hn.1 (e ▸ hy)
   exact (List.mem_erase_of_ne hne).2 (hs y (List.mem_cons_of_mem _ hy))
  rw [List.length_erase_of_mem hx] at h1
  have : 0 < b.length := List.length_pos_of_mem hx
  simp only [List.length_cons]; omega
theorem cover {n m : Nat} {f : Nat → Nat} (h : ∀ y, y < m → ∃ x, x < n ∧ f x = y) : m ≤ n := by
 have := len_le_of_sub (List.range m) ((List.range n).map f) List.nodup_range fun y hy => by
  obtain ⟨x, hx, e⟩ := h y (List.mem_range.1 hy)
  exact List.mem_map.2 ⟨x, List.mem_range.2 hx, e⟩
 simpa using this
theorem cover_inj {n m : Nat} {f : Nat → Nat} (h : ∀ y, y < m → ∃ x, x < n ∧ f x = y) (hnm : n = m) {a b : Nat} (ha : a < n) (hb : b < n) (e : f a = f b) : a = b := by
 rcases Nat.decEq a b with hne | he
 ·exfalso
  have := len_le_of_sub (List.range m) (((List.range n).erase a).map f) List.nodup_range fun y hy => by
   obtain ⟨x, hx, e2⟩ := h y (List.mem_range.1 hy)
   rcases Nat.decEq x a with hxa | hxa
   ·exact List.mem_map.2 ⟨x, (List.mem_erase_of_ne hxa).2 (List.mem_range.2 hx), e2⟩
   ·subst hxa
    exact List.mem_map.2 ⟨b, (List.mem_erase_of_ne (Ne.symm hne)).2 (List.mem_range.2 hb), by rw [← e]; exact e2⟩
  rw [List.length_map, List.length_erase_of_mem (List.mem_range.2 ha)] at this
  simp at this
  omega
 ·exact he
section
variable {l : List Nd} {ord : List Nat}
structure Topo (l : List Nd) (ord : List Nat) : Prop where
 lt : ∀ i ∈ ord, i < l.length
 kids : ∀ (a i : Nat), ord[a]? = some i → ∀ m, m < (nd l i).ks.length → ∃ b, b < a ∧ ord[b]? = some (kid l i m)
 full : ∀ i, i < l.length → (∀ m, m < (nd l i).ks.length → kid l i m ∈ ord) → i ∈ ord
theorem Topo.eqv (h : Topo l ord) (hc : Closed l) : ∀ (a i j : Nat), ord[a]? = some i → j < l.length → Eqv l l i j → j ∈ ord := by
 intro a
 induction a using Nat.strongRecOn with
 | _ a ih =>
  intro i j ha hj e
  refine h.full j hj fun m hm => ?_
  have hm' : m < (nd l i).ks.length := by rw [hd_len e.head]; exact hm
  obtain ⟨b, hb, hb2⟩ := h.kids a i ha m hm'
  exact ih b hb _ _ hb2 (kid_lt hc hj hm) (e.kid hm')
theorem Topo.mem (h : Topo l ord) (hc : Closed l) {i j : Nat} (hi : i < l.length) (hj : j < l.length) (e : Eqv l l i j) : i ∈ ord ↔ j ∈ ord := by
 constructor
 ·intro hm
  obtain ⟨a, ha⟩ := List.getElem?_of_mem hm
  exact h.eqv hc a i j ha hj e
 ·intro hm
  obtain ⟨a, ha⟩ := List.getElem?_of_mem hm
  exact h.eqv hc a j i ha hi e.symm
def kc (l : List Nd) (c : Nat → Int) (i : Nat) : List Int := (Gr.kids l i).map c
theorem kc_eq {c : Nat → Int} {i j : Nat} (h : kc l c i = kc l c j) : ∀ m, m < (nd l i).ks.length → c (kid l i m) = c (kid l j m) := by
 intro m hm
 have hl : (Gr.kids l i).length = (Gr.kids l j).length := by
  have := congrArg List.length h
  simpa [kc] using this
 rw [kids_len, kids_len] at hl
 have := congrArg (·[m]?) h
 simp only [kc, List.getElem?_map] at this
 rw [kids_get hm, kids_get (by omega)] at this
 simpa using this
theorem kc_of {c : Nat → Int} {i j : Nat} (hl : (nd l i).ks.length = (nd l j).ks.length) (h : ∀ m, m < (nd l i).ks.length → c (kid l i m) = c (kid l j m)) : kc l c i = kc l c j := by
 apply List.ext_getElem?
 intro m
 simp only [kc, List.getElem?_map]
 rcases Nat.lt_or_ge m (nd l i).ks.length with hm | hm
 ·rw [kids_get hm, kids_get (by omega)]; simp [h m hm]
 ·rw [List.getElem?_eq_none (by rw [kids_len]; exact hm), List.getElem?_eq_none (by rw [kids_len]; omega)]
structure Flat (l : List Nd) (ord : List Nat) (c : Nat → Int) (p : Nat) : Prop where
 iff : ∀ (a b i j : Nat), a < p → b < p → ord[a]? = some i → ord[b]? = some j → (c i = c j ↔ (nd l i).hd = (nd l j).hd ∧ kc l c i = kc l c j)
theorem Flat.eqv {c : Nat → Int} {p : Nat} (h : Flat l ord c p) (ho : Topo l ord) : ∀ (a b i j : Nat), a < p → b < p → ord[a]? = some i → ord[b]? = some j → (c i = c j ↔ Eqv l l i j) := by
 intro a
 induction a using Nat.strongRecOn with
 | _ a ih =>
  intro b i j ha hb hai hbj
  rw [h.iff a b i j ha hb hai hbj]
  constructor
  ·rintro ⟨h1, h2⟩
   refine Eqv.mk h1 fun m hm => ?_
   obtain ⟨a', ha', hka⟩ := ho.kids a i hai m hm
   obtain ⟨b', hb', hkb⟩ := ho.kids b j hbj m (by rw [← hd_len h1]; exact hm)
   exact (ih a' ha' b' _ _ (by omega) (by omega) hka hkb).1 (kc_eq h2 m hm)
  ·intro e
   refine ⟨e.head, kc_of (hd_len e.head) fun m hm => ?_⟩
   obtain ⟨a', ha', hka⟩ := ho.kids a i hai m hm
   obtain ⟨b', hb', hkb⟩ := ho.kids b j hbj m (by rw [← hd_len e.head]; exact hm)
   exact (ih a' ha' b' _ _ (by omega) (by omega) hka hkb).2 (e.kid hm)
structure Part (l : List Nd) (ord : List Nat) (base count : Nat) (c : Nat → Int) : Prop where
 flat : ∀ (i j : Nat), i ∈ ord → j ∈ ord → (c i = c j ↔ Eqv l l i j)
 low : ∀ i ∈ ord, 0 ≤ c i ∧ c i < base
 high : ∀ i, i < l.length → i ∉ ord → (base : Int) ≤ c i ∧ c i < base + count
 hit : ∀ y, y < count → ∃ i, i < l.length ∧ i ∉ ord ∧ c i = base + (y : Nat)
 eqv : ∀ (i j : Nat), i < l.length → j < l.length → i ∉ ord → j ∉ ord → Eqv l l i j → c i = c j
 hd : ∀ (i j : Nat), i < l.length → j < l.length → i ∉ ord → j ∉ ord → c i = c j → (nd l i).hd = (nd l j).hd
theorem Part.all {base count : Nat} {c : Nat → Int} (h : Part l ord base count c) (ho : Topo l ord) (hc : Closed l) {i j : Nat} (hi : i < l.length) (hj : j < l.length) (e : Eqv l l i j) : c i = c j := by
 by_cases hm : i ∈ ord
 ·exact (h.flat i j hm ((ho.mem hc hi hj e).1 hm)).2 e
 ·exact h.eqv i j hi hj hm (fun hm' => hm ((ho.mem hc hi hj e).2 hm')) e
theorem Part.side {base count : Nat} {c : Nat → Int} (h : Part l ord base count c) {i j : Nat} (hi : i < l.length) (hj : j < l.length) (e : c i = c j) : i ∈ ord ↔ j ∈ ord := by
 constructor
 ·intro hm
  have := h.low i hm
  refine Classical.byContradiction fun hn => ?_
  have := h.high j hj hn
  omega
 ·intro hm
  have := h.low j hm
  refine Classical.byContradiction fun hn => ?_
  have := h.high i hi hn
  omega
theorem Part.step {base count count' : Nat} {c c' : Nat → Int} (h : Part l ord base count c) (ho : Topo l ord) (hc : Closed l)
  (hflat : ∀ i ∈ ord, c' i = c i) (high : ∀ i, i < l.length → i ∉ ord → (base : Int) ≤ c' i ∧ c' i < base + count') (hit : ∀ y, y < count' → ∃ i, i < l.length ∧ i ∉ ord ∧ c' i = base + (y : Nat))
  (hiff : ∀ i j, i < l.length → j < l.length → i ∉ ord → j ∉ ord → (c' i = c' j ↔ c i = c j ∧ kc l c i = kc l c j)) :
  Part l ord base count' c' ∧ count ≤ count' ∧ (count' = count → ∀ i j, i < l.length → j < l.length → (c' i = c' j ↔ Eqv l l i j)) := by
 have P' : Part l ord base count' c' := by
  refine ⟨fun i j hi hj => by rw [hflat i hi, hflat j hj]; exact h.flat i j hi hj, fun i hi => by rw [hflat i hi]; exact h.low i hi, high, hit, fun i j hi hj ni nj e => ?_, fun i j hi hj ni nj e => ?_⟩
  ·refine (hiff i j hi hj ni nj).2 ⟨h.eqv i j hi hj ni nj e, kc_of (hd_len e.head) fun m hm => ?_⟩
   exact h.all ho hc (kid_lt hc hi hm) (kid_lt hc hj (by rw [← hd_len e.head]; exact hm)) (e.kid hm)
  ·exact h.hd i j hi hj ni nj ((hiff i j hi hj ni nj).1 e).1
 -- the map from new numbers to old ones
 have hex : ∀ y, ∃ x, y < count' → ∃ i, i < l.length ∧ i ∉ ord ∧ c' i = base + (y : Nat) ∧ c i = base + (x : Nat) := by
  intro y
  by_cases hy : y < count'
  ·obtain ⟨i, hi, ni, e⟩ := hit y hy
   have := h.high i hi ni
   exact ⟨(c i - base).toNat, fun _ => ⟨i, hi, ni, e, by omega⟩⟩
  ·exact ⟨0, fun h => absurd h hy⟩
 obtain ⟨f, hf⟩ := Classical.axiomOfChoice hex
 have hcov : ∀ y, y < count → ∃ x, x < count' ∧ f x = y := by
  intro y hy
  obtain ⟨i, hi, ni, e⟩ := h.hit y hy
  have hh := high i hi ni
  refine ⟨(c' i - base).toNat, by omega, ?_⟩
  obtain ⟨j, hj, nj, e1, e2⟩ := hf (c' i - base).toNat (by omega)
  have e3 : c' i = c' j := by omega
  have := ((hiff i j hi hj ni nj).1 e3).1
  omega
 refine ⟨P', cover hcov, fun hcc i j hi hj => ⟨fun e => ?_, fun e => P'.all ho hc hi hj e⟩⟩
 have back : ∀ i j, i < l.length → j < l.length → i ∉ ord → j ∉ ord → c i = c j → c' i = c' j := by
  intro i j hi hj ni nj e
  have h1 := high i hi ni
  have h2 := high j hj nj
  obtain ⟨a, ha, na, a1, a2⟩ := hf (c' i - base).toNat (by omega)
  obtain ⟨b, hb, nb, b1, b2⟩ := hf (c' j - base).toNat (by omega)
  have e1 := ((hiff i a hi ha ni na).1 (by omega)).1
  have e2 := ((hiff j b hj hb nj nb).1 (by omega)).1
  have : (c' i - base).toNat = (c' j - base).toNat := cover_inj hcov hcc (by omega) (by omega) (by omega)
  omega
 refine Eqv.coind (fun i j => i < l.length ∧ j < l.length ∧ c i = c j) ?_ ⟨hi, hj, ?_⟩
 ·rintro i j ⟨hi, hj, e⟩
  by_cases hm : i ∈ ord
  ·have ev := (h.flat i j hm ((h.side hi hj e).1 hm)).1 e
   refine ⟨ev.head, fun m hm2 => ⟨kid_lt hc hi hm2, kid_lt hc hj (by rw [← hd_len ev.head]; exact hm2), h.all ho hc (kid_lt hc hi hm2) (kid_lt hc hj (by rw [← hd_len ev.head]; exact hm2)) (ev.kid hm2)⟩⟩
  ·have nj : j ∉ ord := fun hm' => hm ((h.side hi hj e).2 hm')
   have hh := h.hd i j hi hj hm nj e
   refine ⟨hh, fun m hm2 => ⟨kid_lt hc hi hm2, kid_lt hc hj (by rw [← hd_len hh]; exact hm2), ?_⟩⟩
   exact kc_eq ((hiff i j hi hj hm nj).1 (back i j hi hj hm nj e)).2 m hm2
 ·by_cases hm : i ∈ ord
  ·have hm' := (P'.side hi hj e).1 hm
   rw [← hflat i hm, ← hflat j hm']; exact e
  ·exact ((hiff i j hi hj hm (fun hm' => hm ((P'.side hi hj e).2 hm'))).1 e).1
end
end Go.V.Gr

namespace Go.V.Gr
open Go Go.V
def ga (l : List Int) (i : Nat) : Int := l[i]?.getD 0
theorem ga_get {l : List Int} {i : Nat} (h : i < l.length) : ga l i = l[i] := by rw [ga, List.getElem?_eq_getElem h]; rfl
theorem ga_set {l : List Int} {i j : Nat} {v : Int} (h : i < l.length) : ga (l.set i v) j = if j = i then v else ga l j := by
 rw [ga, ga, List.getElem?_set]
 by_cases e : i = j
 ·subst e; rw [if_pos rfl, if_pos h, if_pos rfl]; rfl
 ·rw [if_neg e, if_neg (Ne.symm e)]
def cnt (l : List Nd) (S : List Nat) (i : Nat) : Nat := (kids l i).countP fun k => decide (k ∉ S)
theorem countP_zero {ks S : List Nat} : ks.countP (fun k => decide (k ∉ S)) = 0 ↔ ∀ k ∈ ks, k ∈ S := by
 rw [List.countP_eq_zero]; simp
theorem countP_push (ks S : List Nat) {x : Nat} (hx : x ∉ S) : ks.countP (fun k => decide (k ∉ S)) = ks.countP (fun k => decide (k ∉ S ++ [x])) + ks.count x := by
 induction ks with
 | nil => rfl
 | cons k ks ih =>
  rw [List.countP_cons, List.countP_cons, List.count_cons, ih]
  by_cases hk : k = x
  ·subst hk; simp [hx]; omega
  ·have : (k ∈ S ++ [x]) ↔ k ∈ S := by simp [hk]
   simp only [this, beq_iff_eq, hk, if_false]; omega
structure Run (l : List Nd) (ord : List Nat) (op : List Int) (p : Nat) (E : List Nat) : Prop where
 nodup : ord.Nodup
 lt : ∀ i ∈ ord, i < l.length
 opl : op.length = l.length
 opv : ∀ i, i < l.length → ga op i = (cnt l (ord.take p) i : Int) - (E.count i : Nat)
 mem : ∀ i, i < l.length → (i ∈ ord ↔ ga op i = 0)
 kids : ∀ (a i : Nat), ord[a]? = some i → ∀ k ∈ kids l i, k ∈ ord.take a
 le : p ≤ ord.length
section
variable {l : List Nd} {ord E : List Nat} {op : List Int} {p x u : Nat}
theorem take_not_mem (h : ord.Nodup) (hx : ord[p]? = some x) : x ∉ ord.take p := by
 have h1 : ord = ord.take p ++ ord.drop p := (List.take_append_drop p ord).symm
 rw [h1, List.nodup_append] at h
 intro hm
 have hp : p < ord.length := (List.getElem?_eq_some_iff.1 hx).1
 have : x ∈ ord.drop p := by
  rw [List.getElem?_eq_getElem hp] at hx; cases hx
  rw [List.drop_eq_getElem_cons hp]; exact List.mem_cons_self
 exact h.2.2 x hm x this rfl
theorem take_succ_get (hx : ord[p]? = some x) : ord.take (p + 1) = ord.take p ++ [x] := by
 rw [List.take_add_one, hx]; rfl
theorem Run.up (h : Run l ord op p E) (hx : ord[p]? = some x) (hu : u < l.length) (hE : ∀ i, i < l.length → (E ++ [u]).count i ≤ (Gr.kids l i).count x) :
  1 ≤ ga op u ∧ Run l (if ga op u - 1 = 0 then ord ++ [u] else ord) (op.set u (ga op u - 1)) p (E ++ [u]) := by
 have hp : p < ord.length := (List.getElem?_eq_some_iff.1 hx).1
 have hnx := take_not_mem h.nodup hx
 have hul : u < op.length := by rw [h.opl]; exact hu
 have hc := hE u hu
 rw [List.count_append, List.count_singleton_self] at hc
 have hcp := countP_push (Gr.kids l u) (ord.take p) hnx
 have hop := h.opv u hu
 have hcnt : cnt l (ord.take p) u = (Gr.kids l u).countP fun k => decide (k ∉ ord.take p) := rfl
 have h1 : 1 ≤ ga op u := by omega
 refine ⟨h1, ?_⟩
 have opA : ∀ {o : List Nat}, o.take p = ord.take p → ∀ i, i < l.length → ga (op.set u (ga op u - 1)) i = (cnt l (o.take p) i : Int) - ((E ++ [u]).count i : Nat) := by
  intro o ho i hi
  rw [ga_set hul, ho, List.count_append]
  by_cases e : i = u
  ·subst e; rw [if_pos rfl, List.count_singleton_self, hop]; omega
  ·rw [if_neg e, h.opv i hi, List.count_singleton]
   have : (u == i) = false := by rw [beq_eq_false_iff_ne]; exact Ne.symm e
   rw [this]; simp
 split
 ·rename_i h0
  have hn : u ∉ ord := fun hm => by have := (h.mem u hu).1 hm; omega
  have ht : (ord ++ [u]).take p = ord.take p := by rw [List.take_append_of_le_length (by omega)]
  refine ⟨?_, ?_, by simp [h.opl], opA ht, ?_, ?_, by simp; omega⟩
  ·rw [List.nodup_append]
   refine ⟨h.nodup, by simp, fun a ha b hb => ?_⟩
   simp at hb; subst hb; rintro rfl; exact hn ha
  ·intro i hi
   rcases List.mem_append.1 hi with hi | hi
   ·exact h.lt i hi
   ·simp at hi; subst hi; exact hu
  ·intro i hi
   rw [ga_set hul, List.mem_append, List.mem_singleton]
   by_cases e : i = u
   ·subst e; simp [h0]
   ·rw [if_neg e, ← h.mem i hi]; simp [e]
  ·intro a i ha k hk
   rcases Nat.lt_or_ge a ord.length with h2 | h2
   ·rw [List.getElem?_append_left h2] at ha
    rw [List.take_append_of_le_length (by omega)]; exact h.kids a i ha k hk
   ·rw [List.getElem?_append_right h2] at ha
    have h3 : a - ord.length < 1 := (List.getElem?_eq_some_iff.1 ha).1
    have h4 : a - ord.length = 0 := by omega
    rw [h4] at ha; simp at ha; subst ha
    have h5 : a = ord.length := by omega
    subst h5
    rw [List.take_append_of_le_length (Nat.le_refl _), List.take_length]
    -- all parts of u stand in ord[0..p]
    have h6 : (Gr.kids l u).countP (fun k => decide (k ∉ ord.take p ++ [x])) = 0 := by omega
    have h7 := countP_zero.1 h6 k hk
    rw [← take_succ_get hx] at h7
    exact List.mem_of_mem_take h7
 ·rename_i h0
  refine ⟨h.nodup, h.lt, by simp [h.opl], opA rfl, ?_, h.kids, h.le⟩
  intro i hi
  rw [ga_set hul]
  by_cases e : i = u
  ·subst e
   rw [if_pos rfl, h.mem i hi]; omega
  ·rw [if_neg e, ← h.mem i hi]
theorem Run.next (h : Run l ord op p E) (hx : ord[p]? = some x) (hE : ∀ i, i < l.length → E.count i = (Gr.kids l i).count x) : Run l ord op (p + 1) [] := by
 have hp : p < ord.length := (List.getElem?_eq_some_iff.1 hx).1
 refine ⟨h.nodup, h.lt, h.opl, fun i hi => ?_, h.mem, h.kids, by omega⟩
 have h1 : cnt l (ord.take p) i = cnt l (ord.take p ++ [x]) i + (Gr.kids l i).count x := countP_push (Gr.kids l i) (ord.take p) (take_not_mem h.nodup hx)
 rw [h.opv i hi, take_succ_get hx, h1, hE i hi]; simp
theorem Run.done (h : Run l ord op ord.length []) (_hc : Closed l) : Topo l ord := by
 have hk : ∀ i m, m < (nd l i).ks.length → kid l i m ∈ Gr.kids l i := fun i m hm => List.mem_of_getElem? (kids_get hm)
 refine ⟨h.lt, fun a i ha m hm => ?_, fun i hi hall => ?_⟩
 ·have := h.kids a i ha _ (hk i m hm)
  obtain ⟨b, hb, e⟩ := List.getElem_of_mem this
  rw [List.length_take] at hb
  rw [List.getElem_take] at e
  exact ⟨b, by omega, by rw [← e, List.getElem?_eq_getElem]⟩
 ·rw [h.mem i hi, h.opv i hi, List.take_length]
  have : cnt l ord i = 0 := countP_zero.2 fun k hk' => by
   obtain ⟨m, hm, e⟩ := List.getElem_of_mem hk'
   have hm' : m < (nd l i).ks.length := by rw [← kids_len]; exact hm
   have q := kids_get hm'
   rw [List.getElem?_eq_getElem hm] at q
   have q2 := Option.some.inj q
   rw [← e, q2]; exact hall m hm'
  rw [this]; simp
theorem Run.start (hopl : op.length = l.length) (hop : ∀ i, i < l.length → ga op i = ((Gr.kids l i).length : Nat)) (ho : ord = (List.range l.length).filter fun i => decide (ga op i = 0)) : Run l ord op 0 [] := by
 subst ho
 refine ⟨List.nodup_range.filter _, fun i hi => by simp at hi; exact hi.1, hopl, fun i hi => ?_, fun i hi => ?_, fun a i ha k hk => ?_, Nat.zero_le _⟩
 ·rw [hop i hi]; simp [cnt]
 ·simp [hi]
 ·have hm := List.mem_of_getElem? ha
  simp only [List.mem_filter, List.mem_range, decide_eq_true_eq] at hm
  rw [hop i hm.1] at hm
  have : Gr.kids l i = [] := List.length_eq_zero_iff.1 (by omega)
  rw [this] at hk; cases hk
structure Above (l : List Nd) (ab : List (List Nat)) (i m : Nat) : Prop where
 len : ab.length = l.length
 cnt : ∀ (k : Nat), k < l.length → ∀ (j : Nat), ((ab[k]?.getD []).count j) = if j < i then (Gr.kids l j).count k else if j = i then ((Gr.kids l j).take m).count k else 0
 lt : ∀ (k j : Nat), j ∈ ab[k]?.getD [] → j < l.length
theorem Above.put {ab : List (List Nat)} {i m k : Nat} (h : Above l ab i m) (hk : (Gr.kids l i)[m]? = some k) (hkl : k < l.length) (hi : i < l.length) : Above l (ab.set k (ab[k]?.getD [] ++ [i])) i (m + 1) := by
 have hget : ∀ q, (ab.set k (ab[k]?.getD [] ++ [i]))[q]?.getD [] = if q = k then ab[k]?.getD [] ++ [i] else ab[q]?.getD [] := by
  intro q
  rw [List.getElem?_set]
  by_cases e : k = q
  ·subst e; rw [if_pos rfl, if_pos (by rw [h.len]; exact hkl), if_pos rfl]; rfl
  ·rw [if_neg e, if_neg (Ne.symm e)]
 refine ⟨by simp [h.len], fun q hq j => ?_, fun q j hj => ?_⟩
 ·rw [hget]
  have := h.cnt q hq j
  by_cases e : q = k
  ·subst e
   rw [if_pos rfl, List.count_append, this, List.count_singleton]
   by_cases h1 : j < i
   ·have : (i == j) = false := by rw [beq_eq_false_iff_ne]; omega
    simp [h1, this]
   ·by_cases h2 : j = i
    ·subst h2
     simp [List.take_add_one, hk, List.count_append]
    ·have : (i == j) = false := by rw [beq_eq_false_iff_ne]; omega
     simp [h1, h2, this]
  ·rw [if_neg e, this]
   by_cases h1 : j < i
   ·simp [h1]
   ·by_cases h2 : j = i
    ·subst h2
     have : (k == q) = false := by rw [beq_eq_false_iff_ne]; exact Ne.symm e
     simp [List.take_add_one, hk, List.count_append, List.count_singleton, this]
    ·simp [h1, h2]
 ·rw [hget] at hj
  split at hj
  ·rcases List.mem_append.1 hj with hj | hj
   ·exact h.lt k j hj
   ·simp at hj; subst hj; exact hi
  ·exact h.lt q j hj
theorem Above.next {ab : List (List Nat)} {i m : Nat} (h : Above l ab i m) (hm : (Gr.kids l i).length ≤ m) : Above l ab (i + 1) 0 := by
 refine ⟨h.len, fun k hk j => ?_, h.lt⟩
 rw [h.cnt k hk j]
 by_cases h1 : j < i
 ·rw [if_pos h1, if_pos (by omega)]
 ·by_cases h2 : j = i
  ·subst h2; rw [if_neg (by omega), if_pos rfl, if_pos (by omega), List.take_of_length_le hm]
  ·rw [if_neg h1, if_neg h2, if_neg (by omega)]; split <;> simp
end
end Go.V.Gr

namespace Go.V.Gr
open Go Go.V
open Go.Lib (itoa decDigits)
def isM (c : UInt8) : Bool := c == 45 || decide (48 ≤ c.toNat ∧ c.toNat ≤ 57)
theorem dig_val {x : Nat} (h : x < 10) : (UInt8.ofNat (48 + x)).toNat = 48 + x := by rw [UInt8.toNat_ofNat']; omega
theorem decDigits_step (u : Nat) : decDigits u = if u < 10 then [UInt8.ofNat (48 + u)] else decDigits (u / 10) ++ [UInt8.ofNat (48 + u % 10)] := by
 rw [decDigits]; split <;> rfl
theorem decDigits_all : ∀ (u : Nat), ∀ c ∈ decDigits u, 48 ≤ c.toNat ∧ c.toNat ≤ 57 := by
 intro u
 induction u using Nat.strongRecOn with
 | _ u ih =>
  intro c hc
  rw [decDigits_step] at hc
  split at hc
  ·simp only [List.mem_singleton] at hc; subst hc; rw [dig_val (by omega)]; omega
  ·rcases List.mem_append.1 hc with hc | hc
   ·exact ih (u / 10) (by omega) c hc
   ·simp only [List.mem_singleton] at hc; subst hc; rw [dig_val (by omega)]; omega
theorem decDigits_val : ∀ (u : Nat), (decDigits u).foldl (fun n c => 10 * n + (c.toNat - 48)) 0 = u := by
 intro u
 induction u using Nat.strongRecOn with
 | _ u ih =>
  rw [decDigits_step]
  split
  ·simp only [List.foldl_cons, List.foldl_nil]; rw [dig_val (by omega)]; omega
  ·rw [List.foldl_append, ih (u / 10) (by omega)]
   simp only [List.foldl_cons, List.foldl_nil]; rw [dig_val (by omega)]; omega
theorem decDigits_inj {a b : Nat} (h : decDigits a = decDigits b) : a = b := by rw [← decDigits_val a, h, decDigits_val b]
theorem itoa_all (n : Int) : ∀ c ∈ itoa n, isM c = true := by
 intro c hc
 unfold itoa at hc
 split at hc
 ·rcases List.mem_cons.1 hc with rfl | hc
  ·rfl
  ·simp [isM, decDigits_all _ c hc]
 ·simp [isM, decDigits_all _ c hc]
theorem itoa_inj {a b : Int} (h : itoa a = itoa b) : a = b := by
 have key : ∀ {u v : Nat}, 45 :: decDigits u ≠ decDigits v := by
  intro u v e
  have := decDigits_all v 45 (by rw [← e]; simp)
  simp at this
 unfold itoa at h
 split at h <;> split at h
 ·have := decDigits_inj (List.cons.inj h).2; omega
 ·exact absurd h key
 ·exact absurd h.symm key
 ·have := decDigits_inj h; omega
theorem word_cut {p : UInt8 → Bool} {x y s t : List UInt8} (hx : ∀ c ∈ x, p c = true) (hy : ∀ c ∈ y, p c = true) (hs : ∀ c, s.head? = some c → p c = false) (ht : ∀ c, t.head? = some c → p c = false)
  (h : x ++ s = y ++ t) : x = y ∧ s = t := by
 induction x generalizing y with
 | nil =>
  cases y with
  | nil => exact ⟨rfl, h⟩
  | cons c y =>
   simp only [List.nil_append, List.cons_append] at h
   have := hs c (by rw [h]; rfl)
   rw [hy c (by simp)] at this; cases this
 | cons c x ih =>
  cases y with
  | nil =>
   simp only [List.nil_append, List.cons_append] at h
   have := ht c (by rw [← h]; rfl)
   rw [hx c (by simp)] at this; cases this
  | cons d y =>
   simp only [List.cons_append, List.cons.injEq] at h
   obtain ⟨rfl, h⟩ := h
   obtain ⟨rfl, h2⟩ := ih (fun c hc => hx c (List.mem_cons_of_mem _ hc)) (fun c hc => hy c (List.mem_cons_of_mem _ hc)) h
   exact ⟨rfl, h2⟩
theorem itoa_cut {a b : Int} {s t : List UInt8} (hs : ∀ c, s.head? = some c → isM c = false) (ht : ∀ c, t.head? = some c → isM c = false) (h : itoa a ++ s = itoa b ++ t) : a = b ∧ s = t := by
 obtain ⟨h1, h2⟩ := word_cut (itoa_all a) (itoa_all b) hs ht h
 exact ⟨itoa_inj h1, h2⟩
/-! ### Quotes -/
def esc (c : UInt8) : List UInt8 := if c = 34 then [92, 34] else if c = 92 then [92, 92] else if c = 10 then [92, 110] else [c]
def qt (s : List UInt8) : List UInt8 := 34 :: (s.flatMap esc ++ [34])
theorem esc_cut {c d : UInt8} {s t : List UInt8} (h : esc c ++ s = esc d ++ t) : c = d ∧ s = t := by
 unfold esc at h
 repeat' split at h
 all_goals simp_all
theorem esc_end {c : UInt8} {s t : List UInt8} : esc c ++ s ≠ 34 :: t := by
 intro h
 unfold esc at h
 repeat' split at h
 all_goals simp_all
theorem qt_cut {s t u v : List UInt8} (h : qt s ++ u = qt t ++ v) : s = t ∧ u = v := by
 simp only [qt, List.cons_append, List.cons.injEq, true_and, List.append_assoc, List.nil_append] at h
 induction s generalizing t with
 | nil =>
  cases t with
  | nil => simpa using h
  | cons d t => simp only [List.flatMap_nil, List.nil_append, List.flatMap_cons, List.append_assoc] at h; exact absurd h.symm esc_end
 | cons c s ih =>
  cases t with
  | nil => simp only [List.flatMap_nil, List.nil_append, List.flatMap_cons, List.append_assoc] at h; exact absurd h esc_end
  | cons d t =>
   simp only [List.flatMap_cons, List.append_assoc] at h
   obtain ⟨rfl, h2⟩ := esc_cut h
   obtain ⟨rfl, h3⟩ := ih h2
   exact ⟨rfl, h3⟩
/-! ### Heads and keys -/
def featK (f : Ft) : List UInt8 := 32 :: (itoa f.1 ++ qt (bl f.2))
def headK (x : Nd) : List UInt8 := bl x.kd ++ (32 :: (itoa x.n ++ (32 :: (qt (bl x.tx) ++ x.fs.flatMap featK))))
def kidsK (cs : List Int) : List UInt8 := cs.flatMap fun c => 44 :: itoa c
theorem kidsK_inj : ∀ {a b : List Int}, kidsK a = kidsK b → a = b
 | [], [], _ => rfl
 | [], _ :: _, h => by simp [kidsK] at h
 | _ :: _, [], h => by simp [kidsK] at h
 | x :: a, y :: b, h => by
  simp only [kidsK, List.flatMap_cons, List.cons_append, List.cons.injEq, true_and] at h
  have hh : ∀ (l : List Int) c, (l.flatMap fun c => 44 :: itoa c).head? = some c → isM c = false := by
   intro l c hc
   cases l with
   | nil => simp at hc
   | cons z l => simp at hc; subst hc; rfl
  obtain ⟨h1, h2⟩ := itoa_cut (hh a) (hh b) h
  rw [h1, kidsK_inj h2]
theorem feats_cut : ∀ {a b : List Ft} {s t : List UInt8}, (∀ c, s.head? = some c → c ≠ 32) → (∀ c, t.head? = some c → c ≠ 32) → a.flatMap featK ++ s = b.flatMap featK ++ t → a = b ∧ s = t
 | [], [], _, _, _, _, h => ⟨rfl, by simpa using h⟩
 | [], f :: b, s, t, hs, _, h => by
  simp only [List.flatMap_nil, List.nil_append, List.flatMap_cons, featK, List.cons_append] at h
  exact absurd rfl (hs 32 (by rw [h]; rfl))
 | f :: a, [], s, t, _, ht, h => by
  simp only [List.flatMap_nil, List.nil_append, List.flatMap_cons, featK, List.cons_append] at h
  exact absurd rfl (ht 32 (by rw [← h]; rfl))
 | f :: a, g :: b, s, t, hs, ht, h => by
  simp only [List.flatMap_cons, featK, List.cons_append, List.cons.injEq, true_and, List.append_assoc] at h
  obtain ⟨h1, h2⟩ := itoa_cut (by simp [qt, isM]) (by simp [qt, isM]) h
  obtain ⟨h3, h4⟩ := qt_cut h2
  obtain ⟨h5, h6⟩ := feats_cut hs ht h4
  have : f = g := Prod.ext h1 (bl_inj h3)
  rw [this, h5]; exact ⟨rfl, h6⟩
def KdOk (x : Nd) : Prop := ∀ c ∈ bl x.kd, c ≠ 32
theorem key_inj {x y : Nd} {a b : List Int} (hx : KdOk x) (hy : KdOk y) (h : headK x ++ kidsK a = headK y ++ kidsK b) : x.kd = y.kd ∧ x.n = y.n ∧ x.tx = y.tx ∧ x.fs = y.fs ∧ a = b := by
 simp only [headK, List.append_assoc, List.cons_append] at h
 obtain ⟨h1, h2⟩ := word_cut (p := fun c => decide (c ≠ 32)) (by simpa [KdOk] using hx) (by simpa [KdOk] using hy) (by simp) (by simp) h
 simp only [List.cons.injEq, true_and] at h2
 obtain ⟨h3, h4⟩ := itoa_cut (by simp [isM]) (by simp [isM]) h2
 simp only [List.cons.injEq, true_and] at h4
 obtain ⟨h5, h6⟩ := qt_cut h4
 have hh : ∀ (l : List Int) c, (kidsK l).head? = some c → c ≠ 32 := by
  intro l c hc
  cases l with
  | nil => simp [kidsK] at hc
  | cons z l => simp [kidsK] at hc; subst hc; decide
 obtain ⟨h7, h8⟩ := feats_cut (hh a) (hh b) h6
 exact ⟨bl_inj h1, h3, bl_inj h5, h7, kidsK_inj h8⟩
end Go.V.Gr

namespace Go.V.Gr
open Go Go.V
open Go.Lib (itoa)
section
variable {xs : List Nd} {c : Nat → Int} {i j : Nat}
def keyF (xs : List Nd) (c : Nat → Int) (i : Nat) : List UInt8 := 102 :: 32 :: (headK (nd xs i) ++ kidsK (kc xs c i))
def keyR (xs : List Nd) (c : Nat → Int) (i : Nat) : List UInt8 := itoa (c i) ++ (32 :: kidsK (kc xs c i))
theorem kc_len : (kc xs c i).length = (nd xs i).ks.length := by rw [kc, List.length_map, kids_len]
theorem hd_mk {x y : Nd} (h1 : x.kd = y.kd) (h2 : x.n = y.n) (h3 : x.tx = y.tx) (h4 : x.fs = y.fs) (h5 : x.ks.length = y.ks.length) : x.hd = y.hd := by
 simp [Nd.hd, h1, h2, h3, h4, h5]
theorem hd_parts {x y : Nd} (h : x.hd = y.hd) : x.kd = y.kd ∧ x.n = y.n ∧ x.tx = y.tx ∧ x.fs = y.fs := by
 simp only [Nd.hd, Prod.mk.injEq] at h; exact ⟨h.1, h.2.1, h.2.2.1, h.2.2.2.1⟩
theorem headK_of {x y : Nd} (h : x.hd = y.hd) : headK x = headK y := by
 obtain ⟨h1, h2, h3, h4⟩ := hd_parts h
 simp [headK, h1, h2, h3, h4]
theorem keyF_iff (h1 : KdOk (nd xs i)) (h2 : KdOk (nd xs j)) : keyF xs c i = keyF xs c j ↔ (nd xs i).hd = (nd xs j).hd ∧ kc xs c i = kc xs c j := by
 constructor
 ·intro h
  simp only [keyF, List.cons.injEq, true_and] at h
  obtain ⟨e1, e2, e3, e4, e5⟩ := key_inj h1 h2 h
  have hl := congrArg List.length e5
  rw [kc_len, kc_len] at hl
  exact ⟨hd_mk e1 e2 e3 e4 hl, e5⟩
 ·rintro ⟨e1, e2⟩
  rw [keyF, keyF, headK_of e1, e2]
theorem headK_iff {x y : Nd} (h1 : KdOk x) (h2 : KdOk y) (w1 : x.ks.length = x.fs.length) (w2 : y.ks.length = y.fs.length) : headK x = headK y ↔ x.hd = y.hd := by
 constructor
 ·intro h
  obtain ⟨e1, e2, e3, e4, _⟩ := key_inj (a := []) (b := []) h1 h2 (by simpa [kidsK] using h)
  exact hd_mk e1 e2 e3 e4 (by rw [w1, w2, e4])
 ·exact headK_of
theorem keyR_iff : keyR xs c i = keyR xs c j ↔ c i = c j ∧ kc xs c i = kc xs c j := by
 constructor
 ·intro h
  obtain ⟨e1, e2⟩ := itoa_cut (by simp [isM]) (by simp [isM]) h
  simp only [List.cons.injEq, true_and] at e2
  exact ⟨e1, kidsK_inj e2⟩
 ·rintro ⟨e1, e2⟩
  rw [keyR, keyR, e1, e2]
theorem kc_congr {c c' : Nat → Int} (h : ∀ k ∈ Gr.kids xs i, c' k = c k) : kc xs c' i = kc xs c i := List.map_congr_left h
def Numd (T : List ByteArray) (f : Nat → List UInt8) (c : Nat → Int) (base : Int) (S : List Nat) : Prop := ∀ i ∈ S, ∃ (q : Nat) (s : ByteArray), c i = base + q ∧ T[q]? = some s ∧ bl s = f i
theorem nodup_idx {α : Type} {T : List α} (hn : T.Nodup) {a b : Nat} {s : α} (ha : T[a]? = some s) (hb : T[b]? = some s) : a = b := by
 obtain ⟨h1, e1⟩ := List.getElem?_eq_some_iff.1 ha
 obtain ⟨h2, e2⟩ := List.getElem?_eq_some_iff.1 hb
 rcases Nat.lt_trichotomy a b with h | h | h
 ·exact absurd (e1.trans e2.symm) (List.pairwise_iff_getElem.1 hn a b h1 h2 h)
 ·exact h
 ·exact absurd (e2.trans e1.symm) (List.pairwise_iff_getElem.1 hn b a h2 h1 h)
theorem Numd.iff {T : List ByteArray} {f : Nat → List UInt8} {c : Nat → Int} {base : Int} {S : List Nat} (h : Numd T f c base S) (hn : T.Nodup) {i j : Nat} (hi : i ∈ S) (hj : j ∈ S) : c i = c j ↔ f i = f j := by
 obtain ⟨q, s, e1, e2, e3⟩ := h i hi
 obtain ⟨q', s', e1', e2', e3'⟩ := h j hj
 constructor
 ·intro e
  have : q = q' := by omega
  subst this
  rw [e2] at e2'; cases e2'
  rw [← e3, ← e3']
 ·intro e
  have : s = s' := bl_inj (by rw [e3, e3', e])
  subst this
  have := nodup_idx hn e2 e2'
  subst this; omega
theorem Numd.grow {T : List ByteArray} {f : Nat → List UInt8} {c : Nat → Int} {base : Int} {S : List Nat} (h : Numd T f c base S) (t : List ByteArray) : Numd (T ++ t) f c base S := fun i hi => by
 obtain ⟨q, s, e1, e2, e3⟩ := h i hi
 exact ⟨q, s, e1, by rw [List.getElem?_append_left (List.getElem?_eq_some_iff.1 e2).1]; exact e2, e3⟩
theorem Numd.flat {T : List ByteArray} {ord : List Nat} {cl : List Int} {p : Nat} {x : Nat} {v : Nat} {s : ByteArray} (h : Numd T (keyF xs (ga cl)) (ga cl) 0 (ord.take p)) (ho : Topo xs ord) (hnd : ord.Nodup) (hx : ord[p]? = some x) (hxl : x < cl.length)
  (hv : T[v]? = some s) (hs : bl s = keyF xs (ga cl) x) : Numd T (keyF xs (ga (cl.set x v))) (ga (cl.set x v)) 0 (ord.take (p + 1)) := by
 have hnx := take_not_mem hnd hx
 have same : ∀ i ∈ ord.take (p + 1), kc xs (ga (cl.set x v)) i = kc xs (ga cl) i := by
  intro i hi
  refine kc_congr fun k hk => ?_
  rw [ga_set hxl, if_neg]
  rintro rfl
  obtain ⟨a, ha, e⟩ := List.getElem_of_mem hi
  rw [List.length_take] at ha
  rw [List.getElem_take] at e
  obtain ⟨m, hm, e2⟩ := List.getElem_of_mem hk
  have hm' : m < (nd xs i).ks.length := by rw [← kids_len]; exact hm
  obtain ⟨b, hb, e3⟩ := ho.kids a i (by rw [← e, List.getElem?_eq_getElem]) m hm'
  have e4 := kids_get hm'
  rw [List.getElem?_eq_getElem hm, e2] at e4
  cases e4
  have hp : p < ord.length := (List.getElem?_eq_some_iff.1 hx).1
  have := nodup_idx hnd e3 hx
  omega
 intro i hi
 rw [keyF, same i hi]
 rw [take_succ_get hx] at hi
 by_cases e : i = x
 ·subst e
  exact ⟨v, s, by rw [ga_set hxl, if_pos rfl]; simp, hv, hs⟩
 ·rcases List.mem_append.1 hi with hi | hi
  ·obtain ⟨q, s', e1, e2, e3⟩ := h i hi
   exact ⟨q, s', by rw [ga_set hxl, if_neg e]; exact e1, e2, e3⟩
  ·simp at hi; exact absurd hi e
theorem Numd.right {T : List ByteArray} {ord : List Nat} {cl : List Int} (h : Numd T (keyF xs (ga cl)) (ga cl) 0 ord) (hn : T.Nodup) (ho : Topo xs ord) (hk : ∀ x ∈ xs, KdOk x) : ∀ i j, i ∈ ord → j ∈ ord → (ga cl i = ga cl j ↔ Eqv xs xs i j) := by
 have hkd : ∀ i ∈ ord, KdOk (nd xs i) := fun i hi => by rw [nd_get (ho.lt i hi)]; exact hk _ (List.getElem_mem _)
 have F : Flat xs ord (ga cl) ord.length := ⟨fun a b i j _ _ ha hb => by
  rw [h.iff hn (List.mem_of_getElem? ha) (List.mem_of_getElem? hb)]
  exact keyF_iff (hkd i (List.mem_of_getElem? ha)) (hkd j (List.mem_of_getElem? hb))⟩
 intro i j hi hj
 obtain ⟨a, ha⟩ := List.getElem?_of_mem hi
 obtain ⟨b, hb⟩ := List.getElem?_of_mem hj
 exact F.eqv ho a b i j (List.getElem?_eq_some_iff.1 ha).1 (List.getElem?_eq_some_iff.1 hb).1 ha hb
structure NumR (T : List ByteArray) (f : Nat → List UInt8) (rest : List Nat) (fr : List Int) (base : Nat) (j : Nat) : Prop where
 num : ∀ a, a < j → ∃ (q : Nat) (s : ByteArray), ga fr a = base + q ∧ T[q]? = some s ∧ bl s = f (rest[a]?.getD 0)
 hit : ∀ q, q < T.length → ∃ a, a < j ∧ ga fr a = base + q
 len : T.length ≤ j
theorem NumR.put {T T' : List ByteArray} {f : Nat → List UInt8} {rest : List Nat} {fr : List Int} {base j v : Nat} {s : ByteArray} (h : NumR T f rest fr base j) (hj : j < fr.length) (hT : T' = T ∨ (T' = T ++ [s] ∧ v = T.length)) (hv : T'[v]? = some s) (hs : bl s = f (rest[j]?.getD 0)) :
  NumR T' f rest (fr.set j (base + v : Nat)) base (j + 1) := by
 have grow : ∀ {q : Nat} {u : ByteArray}, T[q]? = some u → T'[q]? = some u := fun {q u} e => by
  rcases hT with rfl | ⟨rfl, _⟩
  ·exact e
  ·rw [List.getElem?_append_left (List.getElem?_eq_some_iff.1 e).1]; exact e
 refine ⟨fun a ha => ?_, fun q hq => ?_, ?_⟩
 ·by_cases e : a = j
  ·subst e; exact ⟨v, s, by rw [ga_set hj, if_pos rfl]; omega, hv, hs⟩
  ·obtain ⟨q, u, e1, e2, e3⟩ := h.num a (by omega)
   exact ⟨q, u, by rw [ga_set hj, if_neg e]; exact e1, grow e2, e3⟩
 ·by_cases hq2 : q < T.length
  ·obtain ⟨a, ha, e⟩ := h.hit q hq2
   exact ⟨a, by omega, by rw [ga_set hj, if_neg (by omega)]; exact e⟩
  ·rcases hT with rfl | ⟨rfl, hv2⟩
   ·exact absurd hq hq2
   ·simp only [List.length_append, List.length_singleton] at hq
    exact ⟨j, by omega, by rw [ga_set hj, if_pos rfl]; omega⟩
 ·rcases hT with rfl | ⟨rfl, _⟩
  ·have := h.len; omega
  ·have := h.len; simp; omega
end
end Go.V.Gr

namespace Go.V.Gr
open Go Go.V
section
variable {l : List Nd}
theorem Dfs.via {ks vs vs' : List Nat} (h : Dfs l ks vs vs') : ∀ q v, vs.length ≤ q → vs'[q]? = some v → v ∈ ks ∨ ∃ p u, p < q ∧ vs'[p]? = some u ∧ v ∈ kids l u := by
 induction h with
 | nil vs => intro q v hq e; have := (List.getElem?_eq_some_iff.1 e).1; omega
 | hit _ _ ih =>
  intro q v hq e
  rcases ih q v hq e with h | h
  ·exact .inl (List.mem_cons_of_mem _ h)
  ·exact .inr h
 | @new i ks vs v1 v2 hn h1 h2 ih1 ih2 =>
  intro q v hq e
  obtain ⟨t1, e1⟩ := h1.grow
  obtain ⟨t2, e2⟩ := h2.grow
  rcases Nat.lt_or_ge q v1.length with hlt | hge
  ·have e' : v1[q]? = some v := by rw [e2, List.getElem?_append_left hlt] at e; exact e
   by_cases hqv : q = vs.length
   ·subst hqv
    rw [e1, List.append_assoc, List.getElem?_append_right (Nat.le_refl _)] at e'
    simp at e'; subst e'; exact .inl (by simp)
   ·rcases ih1 q v (by simp; omega) e' with h | ⟨p, u, h3, h4, h5⟩
    ·refine .inr ⟨vs.length, i, by omega, ?_, h⟩
     rw [e2, e1, List.append_assoc, List.append_assoc, List.getElem?_append_right (Nat.le_refl _)]; simp
    ·refine .inr ⟨p, u, h3, ?_, h5⟩
     rw [e2, List.getElem?_append_left (List.getElem?_eq_some_iff.1 h4).1]; exact h4
  ·rcases ih2 q v hge e with h | h
   ·exact .inl (List.mem_cons_of_mem _ h)
   ·exact .inr h
theorem Least.up {i : Nat} {out : List Nd} (h : Least l i out) (_hc : Closed l) {q : Nat} (h0 : 0 < q) (hq : q < out.length) : ∃ p, p < q ∧ q ∈ kids out p := by
 obtain ⟨vs, d, g⟩ := h
 have hq' : q < vs.length := by rw [← g.len]; exact hq
 have ha := d.apart (fun a b x y e => by simp at e)
 have e := List.getElem?_eq_getElem hq'
 rcases d.via q _ (by simp) e with hk | ⟨p, u, h1, h2, h3⟩
 ·simp only [List.mem_singleton] at hk
  obtain ⟨t, ht⟩ := d.first
  have : vs[0]? = some i := by rw [ht]; rfl
  have := ha 0 q _ _ this e (by rw [hk]; exact Eqv.refl _ _)
  omega
 ·have hp := (List.getElem?_eq_some_iff.1 h2).1
  have hu : vs[p] = u := by have := List.getElem?_eq_getElem hp; rw [h2] at this; exact (Option.some.inj this).symm
  obtain ⟨m, hm⟩ := List.getElem?_of_mem h3
  have hml : m < (nd l u).ks.length := by rw [← kids_len]; exact (List.getElem?_eq_some_iff.1 hm).1
  rw [kids_get hml] at hm
  have hml2 : m < (nd out p).ks.length := by rw [hd_len (g.hd p hp), hu]; exact hml
  obtain ⟨r, e1, hr, e2⟩ := g.ks p hp m hml2
  rw [hu, Option.some.inj hm] at e2
  have : r = q := ha r q _ _ (List.getElem?_eq_getElem hr) e e2
  subst this
  refine ⟨p, h1, ?_⟩
  have : Gr.kid out p m = r := by rw [Gr.kid, e1]; simp
  rw [← this]
  exact List.mem_of_getElem? (kids_get hml2)
end
def plc (l : List Nd) (i : Nat) : Nat := (if i = 0 then 1 else 0) + ((List.range l.length).map fun j => (kids l j).count i).sum
def kBar : ByteArray := ⟨#[124]⟩
def kNil : ByteArray := ⟨#[110, 105, 108]⟩
def kRecT : ByteArray := ⟨#[114, 101, 99]⟩
def isConsD (x : Nd) : Bool := decide (x.kd = kRecT) && decide (x.tx = kBar) && decide (x.fs = [(1, ⟨#[]⟩), (2, ⟨#[]⟩)])
def isNilD (x : Nd) : Bool := decide (x.kd = kRecT) && decide (x.tx = kNil) && decide (x.fs = [])
theorem cons_nil {x : Nd} (h : isConsD x = true) : isNilD x = false := by
 simp only [isConsD, Bool.and_eq_true, decide_eq_true_eq] at h
 simp only [isNilD]
 rw [h.1.2]
 have : decide (kBar = kNil) = false := by decide
 rw [this]; simp
def tl (l : List Nd) (i : Nat) : Nat → Nat
 | 0 => i
 | j + 1 => kid l (tl l i j) 1
end Go.V.Gr

namespace Go.V.Gr
open Go Go.V
def nilH : ByteArray × Int × ByteArray × List Ft × Nat := (kRecT, 0, kNil, [], 0)
def consH : ByteArray × Int × ByteArray × List Ft × Nat := (kRecT, 0, kBar, [(1, ⟨#[]⟩), (2, ⟨#[]⟩)], 2)
inductive ListAt (G : List Nd) : Nat → List (List Nd × Nat) → Prop
 | nil {i : Nat} : i < G.length → (nd G i).hd = nilH → ListAt G i []
 | cons {i : Nat} {g : List Nd × Nat} {gs : List (List Nd × Nat)} : i < G.length → (nd G i).hd = consH → Eqv G g.1 (kid G i 0) g.2 → ListAt G (kid G i 1) gs → ListAt G i (g :: gs)
section
variable {G H : List Nd} {i j : Nat} {gs hs : List (List Nd × Nat)}
theorem ListAt.lt (h : ListAt G i gs) : i < G.length := by cases h <;> assumption
theorem nil_cons : nilH ≠ consH := by
 intro h
 have := congrArg (fun x => x.2.2.2.1.length) h
 simp [nilH, consH] at this
theorem ListAt.eqv (h : ListAt G i gs) (k : ListAt H j gs) : Eqv G H i j := by
 refine Eqv.coind (fun a b => (∃ gs, ListAt G a gs ∧ ListAt H b gs) ∨ Eqv G H a b) (fun a b hab => ?_) (.inl ⟨gs, h, k⟩)
 rcases hab with ⟨gs, h, k⟩ | e
 ·cases h with
  | nil _ h1 =>
   cases k with
   | nil _ k1 =>
    refine ⟨by rw [h1, k1], fun m hm => ?_⟩
    have : (nd G a).ks.length = 0 := by have := congrArg (fun x => x.2.2.2.2) h1; exact this
    omega
  | cons _ h1 h2 h3 =>
   cases k with
   | cons _ k1 k2 k3 =>
    refine ⟨by rw [h1, k1], fun m hm => ?_⟩
    have : (nd G a).ks.length = 2 := by have := congrArg (fun x => x.2.2.2.2) h1; exact this
    match m, hm with
    | 0, _ => exact .inr (h2.trans k2.symm)
    | 1, _ => exact .inl ⟨_, h3, k3⟩
    | m + 2, hm => omega
 ·exact ⟨e.head, fun m hm => .inr (e.kid hm)⟩
theorem ListAt.of_eqv (hc : Closed H) (h : ListAt G i gs) : ∀ {j : Nat}, j < H.length → Eqv G H i j → ListAt H j gs := by
 induction h with
 | nil _ h1 => exact fun hj e => .nil hj (by rw [← e.head]; exact h1)
 | @cons i g gs hi h1 h2 h3 ih =>
  intro j hj e
  have hk : (nd G i).ks.length = 2 := by have := congrArg (fun x => x.2.2.2.2) h1; exact this
  have hk' : (nd H j).ks.length = 2 := by rw [← hd_len e.head]; exact hk
  have e0 := e.kid (m := 0) (by omega)
  have e1 := e.kid (m := 1) (by omega)
  exact .cons hj (by rw [← e.head]; exact h1) (e0.symm.trans h2) (ih (kid_lt hc hj (by omega)) e1)
theorem ListAt.uniq_len (h : ListAt G i gs) : ∀ {hs : List (List Nd × Nat)}, ListAt G i hs → gs.length = hs.length := by
 induction h with
 | nil _ h1 =>
  intro hs k
  cases k with
  | nil => rfl
  | cons _ k1 => exact absurd (h1.symm.trans k1) nil_cons
 | cons _ h1 h2 h3 ih =>
  intro hs k
  cases k with
  | nil _ k1 => exact absurd (k1.symm.trans h1) nil_cons
  | cons _ k1 k2 k3 => rw [List.length_cons, List.length_cons, ih k3]
theorem ListAt.at_ (h : ListAt G i gs) : ∀ j, j ≤ gs.length → ListAt G (tl G i j) (gs.drop j) := by
 intro j
 induction j with
 | zero => intro _; exact h
 | succ j ih =>
  intro hj
  have h2 := ih (by omega)
  rw [List.drop_eq_getElem_cons (by omega)] at h2
  rw [tl]
  cases h2 with
  | cons _ _ _ h3 => exact h3
theorem ListAt.isCons {g : List Nd × Nat} (h : ListAt G i (g :: gs)) : isConsD (nd G i) = true := by
 cases h with
 | cons _ h1 =>
  simp only [Nd.hd, consH, Prod.mk.injEq] at h1
  simp [isConsD, h1.1, h1.2.2.1, h1.2.2.2.1]
theorem ListAt.isNil (h : ListAt G i []) : isNilD (nd G i) = true := by
 cases h with
 | nil _ h1 =>
  simp only [Nd.hd, nilH, Prod.mk.injEq] at h1
  simp [isNilD, h1.1, h1.2.2.1, h1.2.2.2.1]
theorem ListAt.apart (h : ListAt G i gs) : ∀ a b, a ≤ gs.length → b ≤ gs.length → tl G i a = tl G i b → a = b := by
 intro a b ha hb e
 have h1 := h.at_ a ha; have h2 := h.at_ b hb
 rw [e] at h1
 have := h1.uniq_len h2
 simp at this; omega
theorem eqv_behind {G : List Nd} (hc : Closed G) (t : List Nd) {i : Nat} (hi : i < G.length) : Eqv G (G ++ t) i i :=
 Eqv.map (fun i => i) (fun i => i < G.length) (fun i hi => by
  have e : nd (G ++ t) i = nd G i := by rw [nd, nd, List.getElem?_append_left hi]
  exact ⟨by rw [e], fun m hm => ⟨kid_lt hc hi hm, by simp only [kid, e]⟩⟩) hi
theorem ListAt.behind {G : List Nd} (hc : Closed G) (t : List Nd) (h : ListAt G i gs) : ListAt (G ++ t) i gs := by
 have nde : ∀ {i : Nat}, i < G.length → nd (G ++ t) i = nd G i := fun hi => by rw [nd, nd, List.getElem?_append_left hi]
 induction h with
 | nil hi h1 => exact .nil (by simp; omega) (by rw [nde hi]; exact h1)
 | @cons i g gs hi h1 h2 h3 ih =>
  have hk : (nd G i).ks.length = 2 := by have := congrArg (fun x => x.2.2.2.2) h1; exact this
  have e : ∀ m, kid (G ++ t) i m = kid G i m := fun m => by simp only [kid, nde hi]
  refine .cons (by simp; omega) (by rw [nde hi]; exact h1) ?_ (by rw [e]; exact ih)
  rw [e]
  exact (eqv_behind hc t (kid_lt hc hi (by omega))).symm.trans h2
end
end Go.V.Gr
