/- A part of the proof: plain forms of functions and laws about them. -/
import Derived.Test.YtbiamhoonhjodacGreatDoorGreqAk
import Derived.Laws.BytesString
import Derived.Lib.Bytealg
namespace Go.V
open Go.RowKit (Below)
def bl (s : ByteArray) : List UInt8 := s.data.toList
theorem bl_append (a b : ByteArray) : bl (a ++ b) = bl a ++ bl b := by simp [bl]
theorem bl_size (s : ByteArray) : (bl s).length = s.size := by simp [bl]
theorem bl_mk (l : Array UInt8) : bl ⟨l⟩ = l.toList := rfl
theorem bl_inj {a b : ByteArray} (h : bl a = bl b) : a = b := by
 obtain ⟨⟨x⟩⟩ := a
 obtain ⟨⟨y⟩⟩ := b
 simp [bl] at h
 rw [h]
theorem bl_get (s : ByteArray) (i : Nat) : s[i]? = (bl s)[i]? := by
 by_cases h : i < s.size
 ·have h2 : i < (bl s).length := by rw [bl_size]; exact h
  rw [getElem?_pos s i h, List.getElem?_eq_getElem h2]
  simp only [bl, Array.getElem_toList]; rfl
 ·have h2 : (bl s).length ≤ i := by rw [bl_size]; omega
  rw [getElem?_neg s i h, List.getElem?_eq_none h2]
theorem bl_toList (s : ByteArray) : s.toList = bl s := ByteArray.toList_eq s
theorem bl_eq (s t : ByteArray) : (s.toList == t.toList) = decide (bl s = bl t) := by
 rw [bl_toList, bl_toList]
 by_cases h : bl s = bl t
 ·simp [h]
 ·simp [h]
theorem bl_extract (s : ByteArray) (i j : Nat) : bl (s.extract i j) = (bl s).extract i j := by
 simp [bl]
theorem run_byteString {P : Program} {src dst e : TypeId} {w : World} {b : Nat} {x : Int} {t : Nat} (hs : P.underlying src = some (.slice e)) (he : P.underlying e = some (.int .u8)) (hd : P.underlying dst = some .string) (hb : Blk w b #[.int .u8 x] t) :
  Sem.run P (convert src dst (.slice (some ⟨b, 0, none⟩) 1 1)) w = .ok (.string ⟨#[UInt8.ofNat x.toNat]⟩) w := by
 rw [run_convert_bytes_string w src dst e _ 1 1 hs he hd]
 have := run_loadCells_list (P := P) (w := w) ⟨b, 0, none⟩ [.int .u8 x] (fun j v hj => by
  rw [add_mk, Nat.zero_add, hb.cell]; simpa using hj)
 exact run_bytesToString w _ 1 1 [x] this
/-! ### Digits -/
def isD (c : UInt8) : Prop := 48 ≤ c.toNat ∧ c.toNat ≤ 57
def valL (l : List UInt8) : Nat := l.foldl (fun n c => 10 * n + (c.toNat - 48)) 0
def seg (s : ByteArray) (i k : Nat) : List UInt8 := ((bl s).drop i).take k
structure Digs (s : ByteArray) (i k : Nat) (n : Nat) : Prop where
 le : i + k ≤ s.size
 all : ∀ c ∈ seg s i k, isD c
 val : n = valL (seg s i k)
end Go.V

namespace Go.V.Gr
open Go Go.V
abbrev Ft := Int × ByteArray
structure Nd where
 kd : ByteArray
 n : Int
 tx : ByteArray
 fs : List Ft
 ks : List Int
 deriving Inhabited
def Nd.hd (x : Nd) : ByteArray × Int × ByteArray × List Ft × Nat := (x.kd, x.n, x.tx, x.fs, x.ks.length)
def nd (l : List Nd) (i : Nat) : Nd := l[i]?.getD ⟨⟨#[]⟩, 0, ⟨#[]⟩, [], []⟩
def kid (l : List Nd) (i m : Nat) : Nat := ((nd l i).ks[m]?.getD 0).toNat
def kids (l : List Nd) (i : Nat) : List Nat := (nd l i).ks.map Int.toNat
def Closed (l : List Nd) : Prop := ∀ x ∈ l, ∀ k ∈ x.ks, 0 ≤ k ∧ k < l.length
def EqK (l l' : List Nd) : Nat → Nat → Nat → Prop
 | 0, i, j => (nd l i).hd = (nd l' j).hd
 | d + 1, i, j => (nd l i).hd = (nd l' j).hd ∧ ∀ m, m < (nd l i).ks.length → EqK l l' d (kid l i m) (kid l' j m)
def Eqv (l l' : List Nd) (i j : Nat) : Prop := ∀ d, EqK l l' d i j
section
variable {l l' l'' : List Nd} {i j k : Nat}
theorem nd_get {i : Nat} (h : i < l.length) : nd l i = l[i] := by rw [nd, List.getElem?_eq_getElem h]; rfl
theorem hd_len {x y : Nd} (h : x.hd = y.hd) : x.ks.length = y.ks.length := by
 simp only [Nd.hd, Prod.mk.injEq] at h; exact h.2.2.2.2
theorem EqK.head {d : Nat} (h : EqK l l' d i j) : (nd l i).hd = (nd l' j).hd := by
 cases d with
 | zero => exact h
 | succ d => exact h.1
theorem EqK.refl (l : List Nd) : ∀ d i, EqK l l d i i
 | 0, _ => rfl
 | d + 1, _ => ⟨rfl, fun _ _ => EqK.refl l d _⟩
theorem EqK.symm : ∀ {d i j}, EqK l l' d i j → EqK l' l d j i
 | 0, _, _, h => Eq.symm (α := _ × _) h
 | d + 1, _, _, h => ⟨h.1.symm, fun m hm => (h.2 m (by rw [hd_len h.1]; exact hm)).symm⟩
theorem EqK.trans : ∀ {d i j k}, EqK l l' d i j → EqK l' l'' d j k → EqK l l'' d i k
 | 0, _, _, _, h, h2 => Eq.trans (α := _ × _) h h2
 | d + 1, _, _, _, h, h2 => ⟨h.1.trans h2.1, fun m hm => (h.2 m hm).trans (h2.2 m (by rw [← hd_len h.1]; exact hm))⟩
theorem Eqv.refl (l : List Nd) (i : Nat) : Eqv l l i i := fun d => EqK.refl l d i
theorem Eqv.symm (h : Eqv l l' i j) : Eqv l' l j i := fun d => (h d).symm
theorem Eqv.trans (h : Eqv l l' i j) (h2 : Eqv l' l'' j k) : Eqv l l'' i k := fun d => (h d).trans (h2 d)
theorem Eqv.head (h : Eqv l l' i j) : (nd l i).hd = (nd l' j).hd := h 0
theorem Eqv.kid {m : Nat} (h : Eqv l l' i j) (hm : m < (nd l i).ks.length) : Eqv l l' (kid l i m) (Gr.kid l' j m) := fun d => (h (d + 1)).2 m hm
theorem Eqv.mk (h : (nd l i).hd = (nd l' j).hd) (h2 : ∀ m, m < (nd l i).ks.length → Eqv l l' (Gr.kid l i m) (Gr.kid l' j m)) : Eqv l l' i j
 | 0 => h
 | d + 1 => ⟨h, fun m hm => h2 m hm d⟩
theorem Eqv.coind (R : Nat → Nat → Prop) (h : ∀ i j, R i j → (nd l i).hd = (nd l' j).hd ∧ ∀ m, m < (nd l i).ks.length → R (Gr.kid l i m) (Gr.kid l' j m)) (hr : R i j) : Eqv l l' i j := by
 intro d
 induction d generalizing i j with
 | zero => exact (h i j hr).1
 | succ d ih => exact ⟨(h i j hr).1, fun m hm => ih ((h i j hr).2 m hm)⟩
theorem Eqv.map (f : Nat → Nat) (P : Nat → Prop) (h : ∀ i, P i → (nd l i).hd = (nd l' (f i)).hd ∧ ∀ m, m < (nd l i).ks.length → P (Gr.kid l i m) ∧ Gr.kid l' (f i) m = f (Gr.kid l i m)) (hi : P i) : Eqv l l' i (f i) :=
 Eqv.coind (fun i j => P i ∧ j = f i) (by rintro i j ⟨hp, rfl⟩; exact ⟨(h i hp).1, fun m hm => ⟨((h i hp).2 m hm).1, ((h i hp).2 m hm).2⟩⟩) ⟨hi, rfl⟩
theorem kid_lt (h : Closed l) (hi : i < l.length) {m : Nat} (hm : m < (nd l i).ks.length) : Gr.kid l i m < l.length := by
 rw [nd_get hi] at hm
 have := h _ (List.getElem_mem hi) _ (List.getElem_mem hm)
 rw [Gr.kid, nd_get hi, List.getElem?_eq_getElem hm, Option.getD_some]; omega
theorem kids_len : (kids l i).length = (nd l i).ks.length := by simp [kids]
theorem kids_get {m : Nat} (hm : m < (nd l i).ks.length) : (kids l i)[m]? = some (Gr.kid l i m) := by
 rw [kids, List.getElem?_map, Gr.kid, List.getElem?_eq_getElem hm]; rfl
/-! ### Classes -/
def Cls (l : List Nd) (c : List Int) : Prop := c.length = l.length ∧ ∀ i j, i < l.length → j < l.length → (c[i]?.getD 0 = c[j]?.getD 0 ↔ Eqv l l i j)
/-! ### Least graphs -/
def Seen (l : List Nd) (vs : List Nat) (i : Nat) : Prop := ∃ v ∈ vs, Eqv l l v i
inductive Dfs (l : List Nd) : List Nat → List Nat → List Nat → Prop
 | nil (vs : List Nat) : Dfs l [] vs vs
 | hit {i : Nat} {ks vs vs' : List Nat} : Seen l vs i → Dfs l ks vs vs' → Dfs l (i :: ks) vs vs'
 | new {i : Nat} {ks vs v1 v2 : List Nat} : ¬ Seen l vs i → Dfs l (kids l i) (vs ++ [i]) v1 → Dfs l ks v1 v2 → Dfs l (i :: ks) vs v2
theorem Dfs.det {ks vs a b : List Nat} (h : Dfs l ks vs a) (h2 : Dfs l ks vs b) : a = b := by
 induction h generalizing b with
 | nil vs => cases h2; rfl
 | hit hs _ ih =>
  cases h2 with
  | hit _ h2 => exact ih h2
  | new hn _ _ => exact absurd hs hn
 | new hn _ _ ih1 ih2 =>
  cases h2 with
  | hit hs _ => exact absurd hs hn
  | new _ h3 h4 => have := ih1 h3; subst this; exact ih2 h4
theorem Dfs.append {ks ks2 vs v1 v2 : List Nat} (h : Dfs l ks vs v1) (h2 : Dfs l ks2 v1 v2) : Dfs l (ks ++ ks2) vs v2 := by
 induction h with
 | nil vs => exact h2
 | hit hs _ ih => exact .hit hs (ih h2)
 | new hn h1 _ _ ih => exact .new hn h1 (ih h2)
theorem Dfs.grow {ks vs vs' : List Nat} (h : Dfs l ks vs vs') : ∃ t, vs' = vs ++ t := by
 induction h with
 | nil vs => exact ⟨[], by simp⟩
 | hit _ _ ih => exact ih
 | new _ _ _ ih1 ih2 =>
  obtain ⟨t1, rfl⟩ := ih1
  obtain ⟨t2, rfl⟩ := ih2
  exact ⟨_, by rw [List.append_assoc, List.append_assoc]⟩
theorem Seen.grow {vs t : List Nat} (h : Seen l vs i) : Seen l (vs ++ t) i := by
 obtain ⟨v, hv, e⟩ := h
 exact ⟨v, List.mem_append_left _ hv, e⟩
def Apart (l : List Nd) (vs : List Nat) : Prop := ∀ (a b x y : Nat), vs[a]? = some x → vs[b]? = some y → Eqv l l x y → a = b
theorem Apart.push {vs : List Nat} (h : Apart l vs) (hn : ¬ Seen l vs i) : Apart l (vs ++ [i]) := by
 intro a b x y ha hb e
 have key : ∀ {a : Nat} {x : Nat}, (vs ++ [i])[a]? = some x → (a < vs.length ∧ vs[a]? = some x) ∨ (a = vs.length ∧ x = i) := by
  intro a x ha
  rcases Nat.lt_or_ge a vs.length with h1 | h1
  ·rw [List.getElem?_append_left h1] at ha; exact .inl ⟨h1, ha⟩
  ·rw [List.getElem?_append_right h1] at ha
   have h2 : a - vs.length < 1 := (List.getElem?_eq_some_iff.1 ha).1
   have : a - vs.length = 0 := by omega
   rw [this] at ha
   simp at ha
   exact .inr ⟨by omega, ha.symm⟩
 rcases key ha with ⟨a1, a2⟩ | ⟨a1, rfl⟩
 ·rcases key hb with ⟨b1, b2⟩ | ⟨b1, rfl⟩
  ·exact h a b x y a2 b2 e
  ·exact absurd ⟨x, List.mem_of_getElem? a2, e⟩ hn
 ·rcases key hb with ⟨b1, b2⟩ | ⟨b1, rfl⟩
  ·exact absurd ⟨y, List.mem_of_getElem? b2, e.symm⟩ hn
  ·omega
theorem Dfs.apart {ks vs vs' : List Nat} (h : Dfs l ks vs vs') (ha : Apart l vs) : Apart l vs' := by
 induction h with
 | nil vs => exact ha
 | hit _ _ ih => exact ih ha
 | new hn _ _ ih1 ih2 => exact ih2 (ih1 (ha.push hn))
theorem Dfs.lt {ks vs vs' : List Nat} (h : Dfs l ks vs vs') (hc : Closed l) (hk : ∀ k ∈ ks, k < l.length) (hv : ∀ v ∈ vs, v < l.length) : ∀ v ∈ vs', v < l.length := by
 induction h with
 | nil vs => exact hv
 | hit _ _ ih => exact ih (fun k h => hk k (List.mem_cons_of_mem _ h)) hv
 | @new i ks vs v1 v2 hn h1 h2 ih1 ih2 =>
  refine ih2 (fun k h => hk k (List.mem_cons_of_mem _ h)) (ih1 (fun k h => ?_) (fun v h => ?_))
  ·have hi : i < l.length := hk i (by simp)
   obtain ⟨m, hm⟩ := List.getElem?_of_mem h
   have h2 : m < (kids l i).length := (List.getElem?_eq_some_iff.1 hm).1
   rw [kids_len] at h2
   rw [kids_get h2] at hm; cases hm
   exact kid_lt hc hi h2
  ·rcases List.mem_append.1 h with h | h
   ·exact hv v h
   ·simp at h; subst h; exact hk v (by simp)
structure IsG (l : List Nd) (vs : List Nat) (out : List Nd) : Prop where
 len : out.length = vs.length
 hd : ∀ q (h : q < vs.length), (nd out q).hd = (nd l vs[q]).hd
 ks : ∀ q (h : q < vs.length) m, m < (nd out q).ks.length → ∃ p, (nd out q).ks[m]? = some ((p : Nat) : Int) ∧ ∃ hp : p < vs.length, Eqv l l vs[p] (Gr.kid l vs[q] m)
def Least (l : List Nd) (i : Nat) (out : List Nd) : Prop := ∃ vs, Dfs l [i] [] vs ∧ IsG l vs out
theorem nd_ext {x y : Nd} (h : x.hd = y.hd) (h2 : ∀ m, m < x.ks.length → x.ks[m]? = y.ks[m]?) : x = y := by
 obtain ⟨a, b, c, d, e⟩ := x
 obtain ⟨a', b', c', d', e'⟩ := y
 simp only [Nd.hd, Prod.mk.injEq] at h
 obtain ⟨rfl, rfl, rfl, rfl, hl⟩ := h
 have : e = e' := by
  apply List.ext_getElem?
  intro m
  rcases Nat.lt_or_ge m e.length with h | h
  ·exact h2 m h
  ·rw [List.getElem?_eq_none h, List.getElem?_eq_none (by omega)]
 rw [this]
def Like (l l' : List Nd) (vs us : List Nat) : Prop := vs.length = us.length ∧ ∀ (a x y : Nat), vs[a]? = some x → us[a]? = some y → Eqv l l' x y
theorem Like.nil : Like l l' [] [] := ⟨rfl, fun a x y h => by simp at h⟩
theorem Like.push {vs us : List Nat} (h : Like l l' vs us) (e : Eqv l l' i j) : Like l l' (vs ++ [i]) (us ++ [j]) := by
 refine ⟨by simp [h.1], fun a x y ha hb => ?_⟩
 rcases Nat.lt_or_ge a vs.length with h1 | h1
 ·rw [List.getElem?_append_left h1] at ha
  rw [List.getElem?_append_left (by rw [← h.1]; exact h1)] at hb
  exact h.2 a x y ha hb
 ·rw [List.getElem?_append_right h1] at ha
  rw [List.getElem?_append_right (by rw [← h.1]; exact h1)] at hb
  have h2 : a - vs.length < 1 := (List.getElem?_eq_some_iff.1 ha).1
  have h3 : a - vs.length = 0 := by omega
  have h4 : a - us.length = 0 := by rw [← h.1]; exact h3
  rw [h3] at ha; rw [h4] at hb
  simp at ha hb
  subst ha; subst hb; exact e
theorem Like.seen {vs us : List Nat} (h : Like l l' vs us) (e : Eqv l l' i j) : Seen l vs i ↔ Seen l' us j := by
 constructor
 ·rintro ⟨v, hv, ev⟩
  obtain ⟨a, ha⟩ := List.getElem?_of_mem hv
  have h1 : a < us.length := by rw [← h.1]; exact (List.getElem?_eq_some_iff.1 ha).1
  have h2 := List.getElem?_eq_getElem h1
  exact ⟨us[a], List.getElem_mem h1, ((h.2 a _ _ ha h2).symm.trans ev).trans e⟩
 ·rintro ⟨v, hv, ev⟩
  obtain ⟨a, ha⟩ := List.getElem?_of_mem hv
  have h1 : a < vs.length := by rw [h.1]; exact (List.getElem?_eq_some_iff.1 ha).1
  have h2 := List.getElem?_eq_getElem h1
  exact ⟨vs[a], List.getElem_mem h1, ((h.2 a _ _ h2 ha).trans ev).trans e.symm⟩
theorem Like.kids (e : Eqv l l' i j) : Like l l' (kids l i) (Gr.kids l' j) := by
 refine ⟨by rw [kids_len, kids_len, hd_len e.head], fun a x y ha hb => ?_⟩
 have h1 : a < (Gr.kids l i).length := (List.getElem?_eq_some_iff.1 ha).1
 rw [kids_len] at h1
 rw [kids_get h1] at ha
 rw [kids_get (by rw [← hd_len e.head]; exact h1)] at hb
 cases ha; cases hb
 exact e.kid h1
theorem Like.cons {ks js : List Nat} (h : Like l l' (i :: ks) js) : ∃ j ks', js = j :: ks' ∧ Eqv l l' i j ∧ Like l l' ks ks' := by
 obtain ⟨h1, h2⟩ := h
 cases js with
 | nil => simp at h1
 | cons j ks' => exact ⟨j, ks', rfl, h2 0 i j rfl rfl, by simpa using h1, fun a x y ha hb => h2 (a + 1) x y (by simpa using ha) (by simpa using hb)⟩
theorem Dfs.like {ks vs vs' : List Nat} (h : Dfs l ks vs vs') : ∀ {js us : List Nat}, Like l l' ks js → Like l l' vs us → ∃ us', Dfs l' js us us' ∧ Like l l' vs' us' := by
 induction h with
 | nil vs =>
  intro js us h1 h2
  have : js = [] := List.length_eq_zero_iff.1 h1.1.symm
  subst this
  exact ⟨us, .nil _, h2⟩
 | hit hs _ ih =>
  intro js us h1 h2
  obtain ⟨j, ks', rfl, e, h3⟩ := h1.cons
  obtain ⟨us', h4, h5⟩ := ih h3 h2
  exact ⟨us', .hit ((h2.seen e).1 hs) h4, h5⟩
 | new hn _ _ ih1 ih2 =>
  intro js us h1 h2
  obtain ⟨j, ks', rfl, e, h3⟩ := h1.cons
  obtain ⟨u1, h4, h5⟩ := ih1 (Like.kids e) (h2.push e)
  obtain ⟨u2, h6, h7⟩ := ih2 h3 h5
  exact ⟨u2, .new (fun hs => hn ((h2.seen e).2 hs)) h4 h6, h7⟩
theorem IsG.uniq {vs us : List Nat} {out out' : List Nd} (h : IsG l vs out) (h' : IsG l' us out') (hl : Like l l' vs us) (ha : Apart l vs) : out = out' := by
 have hlen : out.length = out'.length := by rw [h.len, h'.len, hl.1]
 apply List.ext_getElem hlen
 intro q h1 h2
 have hq : q < vs.length := by rw [← h.len]; exact h1
 have hq' : q < us.length := by rw [← h'.len]; exact h2
 rw [← nd_get h1, ← nd_get h2]
 have eq : Eqv l l' vs[q] us[q] := hl.2 q _ _ (List.getElem?_eq_getElem hq) (List.getElem?_eq_getElem hq')
 have hh : (nd out q).hd = (nd out' q).hd := by rw [h.hd q hq, h'.hd q hq']; exact eq.head
 refine nd_ext hh fun m hm => ?_
 obtain ⟨p, e1, hp, e2⟩ := h.ks q hq m hm
 obtain ⟨p', e1', hp', e2'⟩ := h'.ks q hq' m (by rw [← hd_len hh]; exact hm)
 have hm2 : m < (nd l vs[q]).ks.length := by rw [← hd_len (h.hd q hq)]; exact hm
 have ek := eq.kid hm2
 have ep' : Eqv l l' (vs[p']'(by rw [hl.1]; exact hp')) us[p'] := hl.2 p' _ _ (List.getElem?_eq_getElem (by rw [hl.1]; exact hp')) (List.getElem?_eq_getElem hp')
 have : p = p' := ha p p' _ _ (List.getElem?_eq_getElem hp) (List.getElem?_eq_getElem (by rw [hl.1]; exact hp')) ((e2.trans ek).trans (ep'.trans e2').symm)
 rw [e1, e1', this]
theorem Least.uniq {out out' : List Nd} (h : Least l i out) (h' : Least l' j out') (e : Eqv l l' i j) : out = out' := by
 obtain ⟨vs, d, g⟩ := h
 obtain ⟨us, d', g'⟩ := h'
 obtain ⟨us2, d2, lk⟩ := d.like (l' := l') (js := [j]) (us := []) (Like.nil.push e) Like.nil
 have := d2.det d'
 subst this
 exact g.uniq g' lk (d.apart fun a b x y ha => by simp at ha)
theorem Dfs.first {i : Nat} {vs : List Nat} (h : Dfs l [i] [] vs) : ∃ t, vs = i :: t := by
 cases h with
 | hit hs _ => obtain ⟨v, hv, _⟩ := hs; cases hv
 | new _ h1 h2 =>
  cases h2
  obtain ⟨t, rfl⟩ := h1.grow
  exact ⟨t, rfl⟩
theorem IsG.eqv {vs : List Nat} {out : List Nd} (h : IsG l vs out) {q : Nat} (hq : q < vs.length) : Eqv out l q vs[q] := by
 refine Eqv.coind (fun a b => ∃ h : a < vs.length, Eqv l l vs[a] b) (fun a b hab => ?_) ⟨hq, Eqv.refl _ _⟩
 obtain ⟨ha, e⟩ := hab
 refine ⟨(h.hd a ha).trans e.head, fun m hm => ?_⟩
 obtain ⟨p, e1, hp, e2⟩ := h.ks a ha m hm
 have : Gr.kid out a m = p := by rw [Gr.kid, e1]; simp
 rw [this]
 exact ⟨hp, e2.trans (e.kid (by rw [← hd_len (h.hd a ha)]; exact hm))⟩
theorem Least.eqv {out : List Nd} (h : Least l i out) : Eqv out l 0 i := by
 obtain ⟨vs, d, g⟩ := h
 obtain ⟨t, rfl⟩ := d.first
 exact g.eqv (q := 0) (by simp)
theorem Least.pos {out : List Nd} (h : Least l i out) : 0 < out.length := by
 obtain ⟨vs, d, g⟩ := h
 obtain ⟨t, rfl⟩ := d.first
 rw [g.len]; simp
theorem Least.closed {out : List Nd} (h : Least l i out) : Closed out := by
 obtain ⟨vs, d, g⟩ := h
 intro x hx k hk
 obtain ⟨q, hq, rfl⟩ := List.getElem_of_mem hx
 obtain ⟨m, hm, rfl⟩ := List.getElem_of_mem hk
 have hq' : q < vs.length := by rw [← g.len]; exact hq
 obtain ⟨p, e1, hp, _⟩ := g.ks q hq' m (by rw [nd_get hq]; exact hm)
 rw [nd_get hq, List.getElem?_eq_getElem hm] at e1
 simp only [Option.some.injEq] at e1
 rw [e1, g.len]; omega
theorem Least.node {out : List Nd} (h : Least l i out) (hc : Closed l) (hi : i < l.length) {q : Nat} (hq : q < out.length) : ∃ v, v < l.length ∧ Eqv out l q v := by
 obtain ⟨vs, d, g⟩ := h
 have hq' : q < vs.length := by rw [← g.len]; exact hq
 exact ⟨vs[q], d.lt hc (by simpa using hi) (by simp) _ (List.getElem_mem hq'), g.eqv hq'⟩
theorem Least.iff {out out' : List Nd} (h : Least l i out) (h' : Least l' j out') : out = out' ↔ Eqv l l' i j :=
 ⟨fun e => by subst e; exact h.eqv.symm.trans h'.eqv, h.uniq h'⟩
end
end Go.V.Gr

namespace Go.V.Gr
open Go Go.V
theorem len_le_of_sub : ∀ (a b : List Nat), a.Nodup → (∀ x ∈ a, x ∈ b) → a.length ≤ b.length
 | [], _, _, _ => by simp
 | x :: a, b, hn, hs => by
  rw [List.nodup_cons] at hn
  have hx : x ∈ b := hs x (by simp)
  have h1 := len_le_of_sub a (b.erase x) hn.2 fun y hy => by
   have hne : y ≠ x := fun e => hn.1 (e ▸ hy)
   exact (List.mem_erase_of_ne hne).2 (hs y (List.mem_cons_of_mem _ hy))
  rw [List.length_erase_of_mem hx] at h1
  have : 0 < b.length := List.length_pos_of_mem hx
  simp only [List.length_cons]; omega
theorem cover {n m : Nat} {f : Nat → Nat} (h : ∀ y, y < m → ∃ x, x < n ∧ f x = y) : m ≤ n := by
 have := len_le_of_sub (List.range m) ((List.range n).map f) List.nodup_range fun y hy => by
  obtain ⟨x, hx, e⟩ := h y (List.mem_range.1 hy)
  exact List.mem_map.2 ⟨x, List.mem_range.2 hx, e⟩
 simpa using this
theorem cover_inj {n m : Nat} {f : Nat → Nat} (h : ∀ y, y < m → ∃ x, x < n ∧ f x = y) (hnm : n = m) {a b : Nat} (ha : a < n) (hb : b < n) (e : f a = f b) : a = b := by
 rcases Nat.decEq a b with hne | he
 ·exfalso
  have := len_le_of_sub (List.range m) (((List.range n).erase a).map f) List.nodup_range fun y hy => by
   obtain ⟨x, hx, e2⟩ := h y (List.mem_range.1 hy)
   rcases Nat.decEq x a with hxa | hxa
   ·exact List.mem_map.2 ⟨x, (List.mem_erase_of_ne hxa).2 (List.mem_range.2 hx), e2⟩
   ·subst hxa
    exact List.mem_map.2 ⟨b, (List.mem_erase_of_ne (Ne.symm hne)).2 (List.mem_range.2 hb), by rw [← e]; exact e2⟩
  rw [List.length_map, List.length_erase_of_mem (List.mem_range.2 ha)] at this
  simp at this
  omega
 ·exact he
section
variable {l : List Nd} {ord : List Nat}
structure Topo (l : List Nd) (ord : List Nat) : Prop where
 lt : ∀ i ∈ ord, i < l.length
 kids : ∀ (a i : Nat), ord[a]? = some i → ∀ m, m < (nd l i).ks.length → ∃ b, b < a ∧ ord[b]? = some (kid l i m)
 full : ∀ i, i < l.length → (∀ m, m < (nd l i).ks.length → kid l i m ∈ ord) → i ∈ ord
theorem Topo.eqv (h : Topo l ord) (hc : Closed l) : ∀ (a i j : Nat), ord[a]? = some i → j < l.length → Eqv l l i j → j ∈ ord := by
 intro a
 induction a using Nat.strongRecOn with
 | _ a ih =>
  intro i j ha hj e
  refine h.full j hj fun m hm => ?_
  have hm' : m < (nd l i).ks.length := by rw [hd_len e.head]; exact hm
  obtain ⟨b, hb, hb2⟩ := h.kids a i ha m hm'
  exact ih b hb _ _ hb2 (kid_lt hc hj hm) (e.kid hm')
theorem Topo.mem (h : Topo l ord) (hc : Closed l) {i j : Nat} (hi : i < l.length) (hj : j < l.length) (e : Eqv l l i j) : i ∈ ord ↔ j ∈ ord := by
 constructor
 ·intro hm
  obtain ⟨a, ha⟩ := List.getElem?_of_mem hm
  exact h.eqv hc a i j ha hj e
 ·intro hm
  obtain ⟨a, ha⟩ := List.getElem?_of_mem hm
  exact h.eqv hc a j i ha hi e.symm
def kc (l : List Nd) (c : Nat → Int) (i : Nat) : List Int := (Gr.kids l i).map c
theorem kc_eq {c : Nat → Int} {i j : Nat} (h : kc l c i = kc l c j) : ∀ m, m < (nd l i).ks.length → c (kid l i m) = c (kid l j m) := by
 intro m hm
 have hl : (Gr.kids l i).length = (Gr.kids l j).length := by
  have := congrArg List.length h
  simpa [kc] using this
 rw [kids_len, kids_len] at hl
 have := congrArg (·[m]?) h
 simp only [kc, List.getElem?_map] at this
 rw [kids_get hm, kids_get (by omega)] at this
 simpa using this
theorem kc_of {c : Nat → Int} {i j : Nat} (hl : (nd l i).ks.length = (nd l j).ks.length) (h : ∀ m, m < (nd l i).ks.length → c (kid l i m) = c (kid l j m)) : kc l c i = kc l c j := by
 apply List.ext_getElem?
 intro m
 simp only [kc, List.getElem?_map]
 rcases Nat.lt_or_ge m (nd l i).ks.length with hm | hm
 ·rw [kids_get hm, kids_get (by omega)]; simp [h m hm]
 ·rw [List.getElem?_eq_none (by rw [kids_len]; exact hm), List.getElem?_eq_none (by rw [kids_len]; omega)]
structure Flat (l : List Nd) (ord : List Nat) (c : Nat → Int) (p : Nat) : Prop where
 iff : ∀ (a b i j : Nat), a < p → b < p → ord[a]? = some i → ord[b]? = some j → (c i = c j ↔ (nd l i).hd = (nd l j).hd ∧ kc l c i = kc l c j)
theorem Flat.eqv {c : Nat → Int} {p : Nat} (h : Flat l ord c p) (ho : Topo l ord) : ∀ (a b i j : Nat), a < p → b < p → ord[a]? = some i → ord[b]? = some j → (c i = c j ↔ Eqv l l i j) := by
 intro a
 induction a using Nat.strongRecOn with
 | _ a ih =>
  intro b i j ha hb hai hbj
  rw [h.iff a b i j ha hb hai hbj]
  constructor
  ·rintro ⟨h1, h2⟩
   refine Eqv.mk h1 fun m hm => ?_
   obtain ⟨a', ha', hka⟩ := ho.kids a i hai m hm
   obtain ⟨b', hb', hkb⟩ := ho.kids b j hbj m (by rw [← hd_len h1]; exact hm)
   exact (ih a' ha' b' _ _ (by omega) (by omega) hka hkb).1 (kc_eq h2 m hm)
  ·intro e
   refine ⟨e.head, kc_of (hd_len e.head) fun m hm => ?_⟩
   obtain ⟨a', ha', hka⟩ := ho.kids a i hai m hm
   obtain ⟨b', hb', hkb⟩ := ho.kids b j hbj m (by rw [← hd_len e.head]; exact hm)
   exact (ih a' ha' b' _ _ (by omega) (by omega) hka hkb).2 (e.kid hm)
structure Part (l : List Nd) (ord : List Nat) (base count : Nat) (c : Nat → Int) : Prop where
 flat : ∀ (i j : Nat), i ∈ ord → j ∈ ord → (c i = c j ↔ Eqv l l i j)
 low : ∀ i ∈ ord, 0 ≤ c i ∧ c i < base
 high : ∀ i, i < l.length → i ∉ ord → (base : Int) ≤ c i ∧ c i < base + count
 hit : ∀ y, y < count → ∃ i, i < l.length ∧ i ∉ ord ∧ c i = base + (y : Nat)
 eqv : ∀ (i j : Nat), i < l.length → j < l.length → i ∉ ord → j ∉ ord → Eqv l l i j → c i = c j
 hd : ∀ (i j : Nat), i < l.length → j < l.length → i ∉ ord → j ∉ ord → c i = c j → (nd l i).hd = (nd l j).hd
theorem Part.all {base count : Nat} {c : Nat → Int} (h : Part l ord base count c) (ho : Topo l ord) (hc : Closed l) {i j : Nat} (hi : i < l.length) (hj : j < l.length) (e : Eqv l l i j) : c i = c j := by
 by_cases hm : i ∈ ord
 ·exact (h.flat i j hm ((ho.mem hc hi hj e).1 hm)).2 e
 ·exact h.eqv i j hi hj hm (fun hm' => hm ((ho.mem hc hi hj e).2 hm')) e
theorem Part.side {base count : Nat} {c : Nat → Int} (h : Part l ord base count c) {i j : Nat} (hi : i < l.length) (hj : j < l.length) (e : c i = c j) : i ∈ ord ↔ j ∈ ord := by
 constructor
 ·intro hm
  have := h.low i hm
  refine Classical.byContradiction fun hn => ?_
  have := h.high j hj hn
  omega
 ·intro hm
  have := h.low j hm
  refine Classical.byContradiction fun hn => ?_
  have := h.high i hi hn
  omega
theorem Part.step {base count count' : Nat} {c c' : Nat → Int} (h : Part l ord base count c) (ho : Topo l ord) (hc : Closed l)
  (hflat : ∀ i ∈ ord, c' i = c i) (high : ∀ i, i < l.length → i ∉ ord → (base : Int) ≤ c' i ∧ c' i < base + count') (hit : ∀ y, y < count' → ∃ i, i < l.length ∧ i ∉ ord ∧ c' i = base + (y : Nat))
  (hiff : ∀ i j, i < l.length → j < l.length → i ∉ ord → j ∉ ord → (c' i = c' j ↔ c i = c j ∧ kc l c i = kc l c j)) :
  Part l ord base count' c' ∧ count ≤ count' ∧ (count' = count → ∀ i j, i < l.length → j < l.length → (c' i = c' j ↔ Eqv l l i j)) := by
 have P' : Part l ord base count' c' := by
  refine ⟨fun i j hi hj => by rw [hflat i hi, hflat j hj]; exact h.flat i j hi hj, fun i hi => by rw [hflat i hi]; exact h.low i hi, high, hit, fun i j hi hj ni nj e => ?_, fun i j hi hj ni nj e => ?_⟩
  ·refine (hiff i j hi hj ni nj).2 ⟨h.eqv i j hi hj ni nj e, kc_of (hd_len e.head) fun m hm => ?_⟩
   exact h.all ho hc (kid_lt hc hi hm) (kid_lt hc hj (by rw [← hd_len e.head]; exact hm)) (e.kid hm)
  ·exact h.hd i j hi hj ni nj ((hiff i j hi hj ni nj).1 e).1
 -- the map from new numbers to old ones
 have hex : ∀ y, ∃ x, y < count' → ∃ i, i < l.length ∧ i ∉ ord ∧ c' i = base + (y : Nat) ∧ c i = base + (x : Nat) := by
  intro y
  by_cases hy : y < count'
  ·obtain ⟨i, hi, ni, e⟩ := hit y hy
   have := h.high i hi ni
   exact ⟨(c i - base).toNat, fun _ => ⟨i, hi, ni, e, by omega⟩⟩
  ·exact ⟨0, fun h => absurd h hy⟩
 obtain ⟨f, hf⟩ := Classical.axiomOfChoice hex
 have hcov : ∀ y, y < count → ∃ x, x < count' ∧ f x = y := by
  intro y hy
  obtain ⟨i, hi, ni, e⟩ := h.hit y hy
  have hh := high i hi ni
  refine ⟨(c' i - base).toNat, by omega, ?_⟩
  obtain ⟨j, hj, nj, e1, e2⟩ := hf (c' i - base).toNat (by omega)
  have e3 : c' i = c' j := by omega
  have := ((hiff i j hi hj ni nj).1 e3).1
  omega
 refine ⟨P', cover hcov, fun hcc i j hi hj => ⟨fun e => ?_, fun e => P'.all ho hc hi hj e⟩⟩
 have back : ∀ i j, i < l.length → j < l.length → i ∉ ord → j ∉ ord → c i = c j → c' i = c' j := by
  intro i j hi hj ni nj e
  have h1 := high i hi ni
  have h2 := high j hj nj
  obtain ⟨a, ha, na, a1, a2⟩ := hf (c' i - base).toNat (by omega)
  obtain ⟨b, hb, nb, b1, b2⟩ := hf (c' j - base).toNat (by omega)
  have e1 := ((hiff i a hi ha ni na).1 (by omega)).1
  have e2 := ((hiff j b hj hb nj nb).1 (by omega)).1
  have : (c' i - base).toNat = (c' j - base).toNat := cover_inj hcov hcc (by omega) (by omega) (by omega)
  omega
 refine Eqv.coind (fun i j => i < l.length ∧ j < l.length ∧ c i = c j) ?_ ⟨hi, hj, ?_⟩
 ·rintro i j ⟨hi, hj, e⟩
  by_cases hm : i ∈ ord
  ·have ev := (h.flat i j hm ((h.side hi hj e).1 hm)).1 e
   refine ⟨ev.head, fun m hm2 => ⟨kid_lt hc hi hm2, kid_lt hc hj (by rw [← hd_len ev.head]; exact hm2), h.all ho hc (kid_lt hc hi hm2) (kid_lt hc hj (by rw [← hd_len ev.head]; exact hm2)) (ev.kid hm2)⟩⟩
  ·have nj : j ∉ ord := fun hm' => hm ((h.side hi hj e).2 hm')
   have hh := h.hd i j hi hj hm nj e
   refine ⟨hh, fun m hm2 => ⟨kid_lt hc hi hm2, kid_lt hc hj (by rw [← hd_len hh]; exact hm2), ?_⟩⟩
   exact kc_eq ((hiff i j hi hj hm nj).1 (back i j hi hj hm nj e)).2 m hm2
 ·by_cases hm : i ∈ ord
  ·have hm' := (P'.side hi hj e).1 hm
   rw [← hflat i hm, ← hflat j hm']; exact e
  ·exact ((hiff i j hi hj hm (fun hm' => hm ((P'.side hi hj e).2 hm'))).1 e).1
end
end Go.V.Gr

namespace Go.V.Gr
open Go Go.V
/-! ### Comparisons -/
def fz : List Int → Int
 | [] => 0
 | a :: l => if a = 0 then fz l else a
def Tri (a b e : Int) : Prop := (a = 0 → b = 0 → e = 0) ∧ (a ≤ 0 → b ≤ 0 → (a < 0 ∨ b < 0) → e < 0)
theorem fz_neg : ∀ l : List Int, fz (l.map fun a => -a) = - fz l
 | [] => rfl
 | a :: l => by
  simp only [List.map_cons, fz, fz_neg l]
  by_cases h : a = 0
  ·simp [h]
  ·rw [if_neg h, if_neg (by omega)]
theorem tri_cons {a b e : Int} {us bs es : List Int} (h : Tri a b e) (h2 : a = 0 → b = 0 → Tri (fz us) (fz bs) (fz es)) : Tri (fz (a :: us)) (fz (b :: bs)) (fz (e :: es)) := by
 obtain ⟨h1, h3⟩ := h
 unfold fz
 by_cases ha : a = 0
 ·by_cases hb : b = 0
  ·rw [if_pos ha, if_pos hb, if_pos (h1 ha hb)]; exact h2 ha hb
  ·rw [if_pos ha, if_neg hb]
   refine ⟨fun _ e => absurd e hb, fun _ k _ => ?_⟩
   have := h3 (by omega) k (by omega)
   rw [if_neg (by omega)]; exact this
 ·rw [if_neg ha]
  refine ⟨fun e => absurd e ha, fun k1 k2 _ => ?_⟩
  by_cases hb : b = 0
  ·rw [if_pos hb] at k2
   have := h3 k1 (by omega) (by omega)
   rw [if_neg (by omega)]; exact this
  ·rw [if_neg hb] at k2
   have := h3 k1 k2 (by omega)
   rw [if_neg (by omega)]; exact this
theorem tri_nil : Tri (fz []) (fz []) (fz []) := ⟨fun _ _ => rfl, fun _ _ h => by simp [fz] at h⟩
theorem zip_neg {α : Type} {c c' : α → α → Int} : ∀ {us bs : List α}, (∀ a ∈ us, ∀ b ∈ bs, c' b a = - c a b) → fz (List.zipWith c' bs us) = - fz (List.zipWith c us bs)
 | [], [], _ => rfl
 | [], _ :: _, _ => rfl
 | _ :: _, [], _ => rfl
 | a :: us, b :: bs, h => by
  have h1 := h a (by simp) b (by simp)
  have h2 := zip_neg (c := c) (c' := c') (us := us) (bs := bs) fun x hx y hy => h x (List.mem_cons_of_mem _ hx) y (List.mem_cons_of_mem _ hy)
  simp only [List.zipWith_cons_cons, fz, h2]
  by_cases e : c a b = 0
  ·rw [if_pos e, if_pos (by omega)]
  ·rw [if_neg e, if_neg (by omega), h1]
theorem zip_tri {α : Type} {c1 c2 c3 : α → α → Int} : ∀ {us bs ds : List α}, us.length = bs.length → bs.length = ds.length → (∀ a ∈ us, ∀ b ∈ bs, ∀ d ∈ ds, Tri (c1 a b) (c2 b d) (c3 a d)) → Tri (fz (List.zipWith c1 us bs)) (fz (List.zipWith c2 bs ds)) (fz (List.zipWith c3 us ds))
 | [], [], [], _, _, _ => tri_nil
 | a :: us, b :: bs, d :: ds, h1, h2, h => by
  simp only [List.zipWith_cons_cons]
  exact tri_cons (h a (by simp) b (by simp) d (by simp)) fun _ _ => zip_tri (by simpa using h1) (by simpa using h2) fun x hx y hy z hz => h x (List.mem_cons_of_mem _ hx) y (List.mem_cons_of_mem _ hy) z (List.mem_cons_of_mem _ hz)
 | [], _ :: _, _, h, _, _ => by simp at h
 | _ :: _, [], _, h, _, _ => by simp at h
 | _, [], _ :: _, _, h, _ => by simp at h
 | _, _ :: _, [], _, h, _ => by simp at h
theorem zip_zero {α β : Type} {c : α → β → Int} : ∀ {us : List α} {bs : List β}, fz (List.zipWith c us bs) = 0 ↔ ∀ (m : Nat) (a : α) (b : β), us[m]? = some a → bs[m]? = some b → c a b = 0
 | [], _ => by simp [fz]
 | _ :: _, [] => by simp [fz]
 | a :: us, b :: bs => by
  simp only [List.zipWith_cons_cons, fz]
  constructor
  ·intro h
   by_cases e : c a b = 0
   ·rw [if_pos e] at h
    intro m x y hx hy
    cases m with
    | zero => simp at hx hy; subst hx; subst hy; exact e
    | succ m => exact zip_zero.1 h m x y (by simpa using hx) (by simpa using hy)
   ·rw [if_neg e] at h; exact absurd h e
  ·intro h
   rw [if_pos (h 0 a b rfl rfl)]
   exact zip_zero.2 fun m x y hx hy => h (m + 1) x y (by simpa using hx) (by simpa using hy)
def sg (a b : Int) : Int := if a < b then -1 else if b < a then 1 else 0
theorem sg_neg (a b : Int) : sg b a = - sg a b := by unfold sg; repeat' split <;> omega
theorem sg_tri (a b c : Int) : Tri (sg a b) (sg b c) (sg a c) := by unfold Tri sg; repeat' split <;> omega
theorem sg_zero {a b : Int} : sg a b = 0 ↔ a = b := by unfold sg; repeat' split <;> omega
open Go.Lib (compareBytes)
theorem cb_neg : ∀ (a b : List UInt8), compareBytes b a = - compareBytes a b
 | [], [] => rfl
 | [], _ :: _ => rfl
 | _ :: _, [] => rfl
 | a :: us, b :: bs => by
  simp only [compareBytes, UInt8.lt_iff_toNat_lt]
  by_cases h : a.toNat < b.toNat
  ·have h2 : ¬ b.toNat < a.toNat := by omega
   simp [h, h2]
  ·by_cases h2 : b.toNat < a.toNat
   ·simp [h, h2]
   ·simp only [h, h2, if_false]; exact cb_neg us bs
theorem cb_zero : ∀ {a b : List UInt8}, compareBytes a b = 0 ↔ a = b
 | [], [] => by simp [compareBytes]
 | [], _ :: _ => by simp [compareBytes]
 | _ :: _, [] => by simp [compareBytes]
 | a :: us, b :: bs => by
  simp only [compareBytes, UInt8.lt_iff_toNat_lt, List.cons.injEq, ← UInt8.toNat_inj]
  by_cases h : a.toNat < b.toNat
  ·rw [if_pos h]; constructor
   ·intro e; omega
   ·intro e; omega
  ·by_cases h2 : b.toNat < a.toNat
   ·rw [if_neg h, if_pos h2]; constructor
    ·intro e; omega
    ·intro e; omega
   ·rw [if_neg h, if_neg h2, cb_zero]
    exact ⟨fun e => ⟨by omega, e⟩, fun e => e.2⟩
theorem cb_tri : ∀ (a b c : List UInt8), Tri (compareBytes a b) (compareBytes b c) (compareBytes a c)
 | [], [], [] => by simp [Tri, compareBytes]
 | [], [], _ :: _ => by simp [Tri, compareBytes]
 | [], _ :: _, [] => by simp [Tri, compareBytes]
 | [], _ :: _, _ :: _ => by simp [Tri, compareBytes]
 | _ :: _, [], _ => by simp [Tri, compareBytes]
 | _ :: _, _ :: _, [] => by simp [Tri, compareBytes]
 | a :: us, b :: bs, c :: cs => by
  have ih := cb_tri us bs cs
  have key : ∀ (x y : UInt8) (xs ys : List UInt8), compareBytes (x :: xs) (y :: ys) = fz [sg x.toNat y.toNat, compareBytes xs ys] := fun x y xs ys => by
   simp only [compareBytes, UInt8.lt_iff_toNat_lt]
   by_cases h : x.toNat < y.toNat
   ·have e : sg x.toNat y.toNat = -1 := by unfold sg; rw [if_pos (by omega)]
    rw [e]; simp [h, fz]
   ·by_cases h2 : y.toNat < x.toNat
    ·have e : sg x.toNat y.toNat = 1 := by unfold sg; rw [if_neg (by omega), if_pos (by omega)]
     rw [e]; simp [h, h2, fz]
    ·have e : sg x.toNat y.toNat = 0 := by unfold sg; rw [if_neg (by omega), if_neg (by omega)]
     rw [e]; simp only [h, h2, if_false, fz, if_true]
     split <;> simp_all
  rw [key, key, key]
  refine tri_cons (sg_tri _ _ _) fun _ _ => tri_cons ih fun _ _ => tri_nil
/-! ### Nodes and depths -/
section
variable {cH : Nd → Nd → Int}
def cK (cH : Nd → Nd → Int) (l l' : List Nd) : Nat → Nat → Nat → Int
 | 0, i, j => cH (nd l i) (nd l' j)
 | d + 1, i, j => fz [cH (nd l i) (nd l' j), fz (List.zipWith (cK cH l l' d) (kids l i) (kids l' j))]
structure HdC (V : Nd → Prop) (cH : Nd → Nd → Int) : Prop where
 neg : ∀ x y, V x → V y → cH y x = - cH x y
 tri : ∀ x y z, V x → V y → V z → Tri (cH x y) (cH y z) (cH x z)
 zero : ∀ x y, V x → V y → (cH x y = 0 ↔ x.hd = y.hd)
structure VL (V : Nd → Prop) (l : List Nd) : Prop where
 v : ∀ x ∈ l, V x
 c : Closed l
theorem VL.nd {V : Nd → Prop} {l : List Nd} (h : VL V l) {i : Nat} (hi : i < l.length) : V (Gr.nd l i) := by
 rw [nd_get hi]; exact h.v _ (List.getElem_mem _)
theorem VL.kid {V : Nd → Prop} {l : List Nd} (h : VL V l) {i : Nat} (hi : i < l.length) : ∀ k ∈ Gr.kids l i, k < l.length := fun k hk => by
 obtain ⟨m, hm⟩ := List.getElem?_of_mem hk
 have hm' : m < (Gr.nd l i).ks.length := by rw [← kids_len]; exact (List.getElem?_eq_some_iff.1 hm).1
 rw [kids_get hm'] at hm; cases hm
 exact kid_lt h.c hi hm'
theorem fz_two {a b : Int} : fz [a, b] = if a = 0 then b else a := by
 simp only [fz]; split
 ·split <;> simp_all
 ·rfl
variable {V : Nd → Prop} (H : HdC V cH)
include H
theorem cK_neg {l l' : List Nd} (h : VL V l) (h' : VL V l') : ∀ (d i j : Nat), i < l.length → j < l'.length → cK cH l' l d j i = - cK cH l l' d i j
 | 0, i, j, hi, hj => H.neg _ _ (h.nd hi) (h'.nd hj)
 | d + 1, i, j, hi, hj => by
  simp only [cK]
  have h1 := H.neg _ _ (h.nd hi) (h'.nd hj)
  have h2 : fz (List.zipWith (cK cH l' l d) (kids l' j) (kids l i)) = - fz (List.zipWith (cK cH l l' d) (kids l i) (kids l' j)) :=
   zip_neg fun a ha b hb => cK_neg h h' d a b (h.kid hi a ha) (h'.kid hj b hb)
  rw [h1, h2]
  have := fz_neg [cH (nd l i) (nd l' j), fz (List.zipWith (cK cH l l' d) (kids l i) (kids l' j))]
  simpa using this
theorem cK_tri {l l' l'' : List Nd} (h : VL V l) (h' : VL V l') (h'' : VL V l'') : ∀ (d i j k : Nat), i < l.length → j < l'.length → k < l''.length → Tri (cK cH l l' d i j) (cK cH l' l'' d j k) (cK cH l l'' d i k)
 | 0, i, j, k, hi, hj, hk => H.tri _ _ _ (h.nd hi) (h'.nd hj) (h''.nd hk)
 | d + 1, i, j, k, hi, hj, hk => by
  simp only [cK]
  refine tri_cons (H.tri _ _ _ (h.nd hi) (h'.nd hj) (h''.nd hk)) fun e1 e2 => tri_cons ?_ fun _ _ => tri_nil
  have e1 := hd_len ((H.zero _ _ (h.nd hi) (h'.nd hj)).1 e1)
  have e2 := hd_len ((H.zero _ _ (h'.nd hj) (h''.nd hk)).1 e2)
  exact zip_tri (by rw [kids_len, kids_len]; exact e1) (by rw [kids_len, kids_len]; exact e2) fun a ha b hb c hc => cK_tri h h' h'' d a b c (h.kid hi a ha) (h'.kid hj b hb) (h''.kid hk c hc)
theorem cK_zero {l l' : List Nd} (h : VL V l) (h' : VL V l') : ∀ (d i j : Nat), i < l.length → j < l'.length → (cK cH l l' d i j = 0 ↔ EqK l l' d i j)
 | 0, i, j, hi, hj => H.zero _ _ (h.nd hi) (h'.nd hj)
 | d + 1, i, j, hi, hj => by
  have h0 := H.zero _ _ (h.nd hi) (h'.nd hj)
  simp only [cK, fz_two, EqK]
  constructor
  ·intro e
   split at e
   ·rename_i e1
    have hh := h0.1 e1
    refine ⟨hh, fun m hm => ?_⟩
    have hm' : m < (nd l' j).ks.length := by rw [← hd_len hh]; exact hm
    exact (cK_zero h h' d _ _ (kid_lt h.c hi hm) (kid_lt h'.c hj hm')).1 (zip_zero.1 e m _ _ (kids_get hm) (kids_get hm'))
   ·rename_i e1; exact absurd e e1
  ·rintro ⟨hh, hk⟩
   rw [if_pos (h0.2 hh)]
   refine zip_zero.2 fun m a b ha hb => ?_
   have hm : m < (nd l i).ks.length := by rw [← kids_len]; exact (List.getElem?_eq_some_iff.1 ha).1
   have hm' : m < (nd l' j).ks.length := by rw [← hd_len hh]; exact hm
   rw [kids_get hm] at ha; rw [kids_get hm'] at hb
   cases ha; cases hb
   exact (cK_zero h h' d _ _ (kid_lt h.c hi hm) (kid_lt h'.c hj hm')).2 (hk m hm)
end
theorem cK_congr {cH : Nd → Nd → Int} (hc : ∀ x x' y y', x.hd = x'.hd → y.hd = y'.hd → cH x y = cH x' y') {l l1 l' l1' : List Nd} : ∀ (d i i1 j j1 : Nat), EqK l l1 d i i1 → EqK l' l1' d j j1 → cK cH l l' d i j = cK cH l1 l1' d i1 j1
 | 0, _, _, _, _, h, h' => hc _ _ _ _ h h'
 | d + 1, i, i1, j, j1, h, h' => by
  simp only [cK]
  rw [hc _ _ _ _ h.1 h'.1]
  suffices hz : List.zipWith (cK cH l l' d) (kids l i) (kids l' j) = List.zipWith (cK cH l1 l1' d) (kids l1 i1) (kids l1' j1) by rw [hz]
  apply List.ext_getElem?
  intro m
  have e1 := hd_len h.1; have e2 := hd_len h'.1
  rw [List.getElem?_zipWith, List.getElem?_zipWith]
  rcases Nat.lt_or_ge m (nd l i).ks.length with hm | hm
  ·rcases Nat.lt_or_ge m (nd l' j).ks.length with hm2 | hm2
   ·rw [kids_get hm, kids_get hm2, kids_get (by omega), kids_get (by omega)]
    simp only
    rw [cK_congr hc d _ _ _ _ (h.2 m hm) (h'.2 m hm2)]
   ·rw [List.getElem?_eq_none (l := kids l' j) (by rw [kids_len]; exact hm2), List.getElem?_eq_none (l := kids l1' j1) (by rw [kids_len]; omega)]
    cases (kids l i)[m]? <;> cases (kids l1 i1)[m]? <;> rfl
  ·rw [List.getElem?_eq_none (l := kids l i) (by rw [kids_len]; exact hm), List.getElem?_eq_none (l := kids l1 i1) (by rw [kids_len]; omega)]
/-! ### Depths end -/
theorem EqK.less {l l' : List Nd} : ∀ {d i j : Nat}, EqK l l' (d + 1) i j → EqK l l' d i j
 | 0, _, _, h => h.1
 | _ + 1, _, _, h => ⟨h.1, fun m hm => (h.2 m hm).less⟩
theorem EqK.le {l l' : List Nd} {d e i j : Nat} (h : EqK l l' d i j) (hd : e ≤ d) : EqK l l' e i j := by
  induction d with
  | zero => have : e = 0 := by omega
            subst this; exact h
  | succ d ih =>
    by_cases he : e = d + 1
    · subst he; exact h
    · exact ih h.less (by omega)
open Classical in
noncomputable def reps (l : List Nd) (t : Nat) : List Nat := (List.range l.length).filter fun i => decide (∀ j, j < i → ¬ EqK l l t j i)
theorem reps_mem {l : List Nd} {t i : Nat} : i ∈ reps l t ↔ i < l.length ∧ ∀ j, j < i → ¬ EqK l l t j i := by
 simp [reps]
theorem reps_ex {l : List Nd} {t : Nat} : ∀ i, i < l.length → ∃ r ∈ reps l t, EqK l l t r i := by
 intro i
 induction i using Nat.strongRecOn with
 | _ i ih =>
  intro hi
  by_cases h : ∀ j, j < i → ¬ EqK l l t j i
  ·exact ⟨i, reps_mem.2 ⟨hi, h⟩, EqK.refl _ _ _⟩
  ·simp only [Classical.not_forall, Classical.not_not] at h
   obtain ⟨j, hj, e⟩ := h
   obtain ⟨r, h1, h2⟩ := ih j hj (by omega)
   exact ⟨r, h1, h2.trans e⟩
theorem reps_grow {l : List Nd} {t : Nat} (h : ∃ i j, i < l.length ∧ j < l.length ∧ EqK l l t i j ∧ ¬ EqK l l (t + 1) i j) : (reps l t).length < (reps l (t + 1)).length := by
 have sub : ∀ x ∈ reps l t, x ∈ reps l (t + 1) := fun x hx => by
  obtain ⟨h1, h2⟩ := reps_mem.1 hx
  exact reps_mem.2 ⟨h1, fun j hj e => h2 j hj e.less⟩
 have hn : ∃ r ∈ reps l (t + 1), r ∉ reps l t := by
  refine Classical.byContradiction fun hno => ?_
  have all : ∀ r ∈ reps l (t + 1), r ∈ reps l t := fun r hr => Classical.byContradiction fun hr2 => hno ⟨r, hr, hr2⟩
  obtain ⟨i, j, hi, hj, e, ne⟩ := h
  obtain ⟨i0, m1, e1⟩ := reps_ex (t := t + 1) i hi
  obtain ⟨j0, m2, e2⟩ := reps_ex (t := t + 1) j hj
  have k1 := reps_mem.1 (all i0 m1)
  have k2 := reps_mem.1 (all j0 m2)
  have e0 : EqK l l t i0 j0 := (e1.less.trans e).trans e2.less.symm
  have : i0 = j0 := by
   rcases Nat.lt_trichotomy i0 j0 with h | h | h
   ·exact absurd e0 (k2.2 i0 h)
   ·exact h
   ·exact absurd e0.symm (k1.2 j0 h)
  subst this
  exact ne (e1.symm.trans e2)
 obtain ⟨r, h1, h2⟩ := hn
 have nod : ∀ t, (reps l t).Nodup := fun t => List.nodup_range.filter _
 have := len_le_of_sub (r :: reps l t) (reps l (t + 1)) (List.nodup_cons.2 ⟨h2, nod t⟩) fun x hx => by
  rcases List.mem_cons.1 hx with rfl | hx
  ·exact h1
  ·exact sub x hx
 simp only [List.length_cons] at this
 omega
theorem reps_le {l : List Nd} {t : Nat} : (reps l t).length ≤ l.length := by
 unfold reps
 refine Nat.le_trans (List.length_filter_le _ _) (by simp)
theorem eqv_of_depth {l : List Nd} (hc : Closed l) {i j : Nat} (hi : i < l.length) (hj : j < l.length) (h : EqK l l l.length i j) : Eqv l l i j := by
 have st : ∃ t, t ≤ l.length ∧ ∀ i j, i < l.length → j < l.length → EqK l l t i j → EqK l l (t + 1) i j := by
  refine Classical.byContradiction fun hno => ?_
  have hg : ∀ t, t ≤ l.length → t ≤ (reps l t).length := by
   intro t
   induction t with
   | zero => intro _; omega
   | succ t ih =>
    intro ht
    have h1 := ih (by omega)
    have : (reps l t).length < (reps l (t + 1)).length := reps_grow (Classical.byContradiction fun hn => hno ⟨t, by omega, fun i j hi hj e => Classical.byContradiction fun ne => hn ⟨i, j, hi, hj, e, ne⟩⟩)
    omega
  have h1 := hg l.length (Nat.le_refl _)
  have h2 : (reps l l.length).length < (reps l (l.length + 1)).length := reps_grow (Classical.byContradiction fun hn => hno ⟨l.length, Nat.le_refl _, fun i j hi hj e => Classical.byContradiction fun ne => hn ⟨i, j, hi, hj, e, ne⟩⟩)
  have h3 := reps_le (l := l) (t := l.length + 1)
  omega
 obtain ⟨t, ht, hs⟩ := st
 refine Eqv.coind (fun i j => i < l.length ∧ j < l.length ∧ EqK l l t i j) ?_ ⟨hi, hj, h.le ht⟩
 rintro i j ⟨hi, hj, e⟩
 have e2 := hs i j hi hj e
 exact ⟨e.head, fun m hm => ⟨kid_lt hc hi hm, kid_lt hc hj (by rw [← hd_len e.head]; exact hm), e2.2 m hm⟩⟩
/-! ### Graphs -/
def cG (cH : Nd → Nd → Int) (l l' : List Nd) (i j N : Nat) : Int := fz ((List.range (N + 1)).map fun t => cK cH l l' t i j)
theorem fz_append : ∀ (a b : List Int), fz (a ++ b) = if fz a = 0 then fz b else fz a
 | [], b => by simp [fz]
 | x :: a, b => by
  by_cases h : x = 0
  ·have e : ∀ l, fz (x :: l) = fz l := fun l => by simp [fz, h]
   rw [List.cons_append, e, e]; exact fz_append a b
  ·have e : ∀ l, fz (x :: l) = x := fun l => by simp [fz, h]
   rw [List.cons_append, e, e, if_neg h]
theorem fz_all {l : List Int} : fz l = 0 ↔ ∀ a ∈ l, a = 0 := by
 induction l with
 | nil => simp [fz]
 | cons a l ih =>
  simp only [fz, List.mem_cons, forall_eq_or_imp]
  by_cases h : a = 0
  ·rw [if_pos h, ih]; exact ⟨fun k => ⟨h, k⟩, fun k => k.2⟩
  ·rw [if_neg h]; exact ⟨fun k => absurd k h, fun k => k.1⟩
theorem cG_succ (cH : Nd → Nd → Int) (l l' : List Nd) (i j N : Nat) : cG cH l l' i j (N + 1) = if cG cH l l' i j N = 0 then cK cH l l' (N + 1) i j else cG cH l l' i j N := by
 rw [cG, List.range_succ, List.map_append, fz_append]
 rw [← cG]
 simp only [List.map_cons, List.map_nil, fz]
 split
 ·split <;> simp_all
 ·rfl
section
variable {cH : Nd → Nd → Int} {V : Nd → Prop} (H : HdC V cH)
include H
theorem cG_deep {l l' : List Nd} (h : VL V l) (h' : VL V l') {i j N : Nat} (hi : i < l.length) (hj : j < l'.length) (hN : EqK l l' N i j → Eqv l l' i j) : ∀ k, cG cH l l' i j (N + k) = cG cH l l' i j N
 | 0 => rfl
 | k + 1 => by
  have ih := cG_deep h h' hi hj hN k
  rw [← Nat.add_assoc, cG_succ, ih]
  split
  ·rename_i e
   rw [e]
   have h0 : cK cH l l' N i j = 0 := fz_all.1 e _ (List.mem_map.2 ⟨N, List.mem_range.2 (by omega), rfl⟩)
   have ev := hN ((cK_zero H h h' N i j hi hj).1 h0)
   exact (cK_zero H h h' _ i j hi hj).2 (ev _)
  ·rfl
theorem cG_neg {l l' : List Nd} (h : VL V l) (h' : VL V l') {i j N : Nat} (hi : i < l.length) (hj : j < l'.length) : cG cH l' l j i N = - cG cH l l' i j N := by
 rw [cG, cG, ← fz_neg, List.map_map]
 congr 1
 exact List.map_congr_left fun t _ => cK_neg H h h' t i j hi hj
theorem cG_zero {l l' : List Nd} (h : VL V l) (h' : VL V l') {i j N : Nat} (hi : i < l.length) (hj : j < l'.length) (hN : EqK l l' N i j → Eqv l l' i j) : cG cH l l' i j N = 0 ↔ Eqv l l' i j := by
 constructor
 ·intro e
  exact hN ((cK_zero H h h' N i j hi hj).1 (fz_all.1 e _ (List.mem_map.2 ⟨N, List.mem_range.2 (by omega), rfl⟩)))
 ·intro e
  refine fz_all.2 fun a ha => ?_
  obtain ⟨t, _, rfl⟩ := List.mem_map.1 ha
  exact (cK_zero H h h' t i j hi hj).2 (e t)
end
end Go.V.Gr
