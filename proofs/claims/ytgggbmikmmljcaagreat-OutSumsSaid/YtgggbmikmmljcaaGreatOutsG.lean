/- A part of the proof: plain forms of functions and laws about them. -/
import Derived.Test.YtgggbmikmmljcaaGreatOutsF
namespace Go.Proofs.YtgggbmikmmljcaaGreat
open Go Go.V Go.Proofs
open Go.RowKit (Below)
structure FrM (κ κ' : Ka RK) (w w' : World) : Prop where
  os : w'.os = w.os
  tape : w'.tape = w.tape
  output : w'.output = w.output
  size : w.heap.size ≤ w'.heap.size
  block : ∀ b, b < w.heap.size → κ b = none → w'.heap[b]? = w.heap[b]?
  free : ∀ b, b < w.heap.size → κ b = none → κ' b = none
section
variable {κ κ' κ1 κ2 κ3 : Ka RK} {N N' : Prm} {r : Rb} {w w' w2 : World}
theorem FrM.of {X : RK → Prop} (p : Pk X κ κ' w w') : FrM κ κ' w w' := ⟨p.os, p.tape, p.output, p.size, p.block, p.free⟩
theorem FrM.trans (h : FrM κ κ1 w w') (g : FrM κ1 κ2 w' w2) : FrM κ κ2 w w2 :=
  ⟨g.os.trans h.os, g.tape.trans h.tape, g.output.trans h.output, Nat.le_trans h.size g.size, fun b hb e => (g.block b (Nat.lt_of_lt_of_le hb h.size) (h.free b hb e)).trans (h.block b hb e), fun b hb e => g.free b (Nat.lt_of_lt_of_le hb h.size) (h.free b hb e)⟩
theorem FrM.butK {b n u : Nat} {k : RK} (h : FrM κ κ1 w w') (x : But b w' w2) (e : κ1 b = some (k, n, u)) : FrM κ κ1 w w2 :=
  ⟨x.os.trans h.os, x.tape.trans h.tape, x.output.trans h.output, by rw [x.size]; exact h.size, fun i hi e2 => (x.block i fun hib => by have := h.free i hi e2; rw [hib, e] at this; cases this).trans (h.block i hi e2), h.free⟩
def Prm.addN (N : Prm) : Prm := { N with n := N.n + 1 }
def shr (κ : Ka RK) (b0 : Nat) : Ka RK := fun b => if b = b0 then κ b else match κ b with | some (.st, _, _) => none | x => x
theorem shr_ne {b b0 n u : Nat} {k : RK} (hk : k ≠ .st) (e : κ b = some (k, n, u)) : shr κ b0 b = some (k, n, u) := by
  unfold shr; split
  · exact e
  · rw [e]; cases k <;> first | exact absurd rfl hk | rfl
theorem shr_some {b b0 n u : Nat} {k : RK} (e : shr κ b0 b = some (k, n, u)) : κ b = some (k, n, u) ∧ (k = .st → b = b0) := by
  unfold shr at e; split at e
  · rename_i h; exact ⟨e, fun _ => h⟩
  · cases e1 : κ b with
    | none => rw [e1] at e; cases e
    | some x =>
      obtain ⟨k2, n2, u2⟩ := x
      rw [e1] at e
      cases k2 <;> first | (cases e; done) | (cases e; exact ⟨rfl, fun h => by cases h⟩)
theorem shr_none {b b0 : Nat} (e : κ b = none) : shr κ b0 b = none := by
  unfold shr; split
  · exact e
  · rw [e]
theorem Sl.shr {k : RK} {s : SL} {b0 : Nat} (hk : k ≠ .st) (h : Sl Kr κ k s) : Sl Kr (shr κ b0) k s := by
  rcases h with h | ⟨g, j, n, u, e1, e2, r⟩
  · exact .inl h
  · exact .inr ⟨g, j, n, u, e1, shr_ne hk e2, r⟩
theorem slK.shr {k : RK} {m b0 : Nat} {v : Value} (hk : k ≠ .st) (h : slK κ k m v) : slK (shr κ b0) k m v := by
  obtain ⟨a, l, c, e, hs, hl⟩ := h; exact ⟨a, l, c, e, Go.Proofs.YtgggbmikmmljcaaGreat.Sl.shr hk hs, hl⟩
theorem Or.shr {k : RK} {j b0 : Nat} {v : Value} (h : Or N r κ k j v) : Or N r (shr κ b0) k j v := by
  cases k <;> simp only [Or] at h ⊢ <;> try exact h
  · split at h <;> first | exact h.elim | exact slK.shr (by decide) h | (obtain ⟨a, c, e, hs⟩ := h; exact ⟨a, c, e, Go.Proofs.YtgggbmikmmljcaaGreat.Sl.shr (by decide) hs⟩) | exact h
  · split at h <;> first | exact h.elim | exact slK.shr (by decide) h | exact h
  · obtain ⟨a, l, c, e, hs⟩ := h; exact ⟨a, l, c, e, Go.Proofs.YtgggbmikmmljcaaGreat.Sl.shr (by decide) hs⟩
theorem Ty.shr {b0 : Nat} (h : Ty Kr (Or N r) κ w) : Ty Kr (Or N r) (Go.Proofs.YtgggbmikmmljcaaGreat.shr κ b0) w := fun b k n u e => by
  obtain ⟨cs, h1, h2, h3, h4⟩ := h b k n u (shr_some e).1
  exact ⟨cs, h1, h2, h3, fun i v hi hv => Or.shr (h4 i v hi hv)⟩
theorem Or.addN {k : RK} {j : Nat} {v : Value} (hj : k = .st → j ≠ 4) (h : Or N r κ k j v) : Or N.addN r κ k j v := by
  have h2 : ∀ {v}, isIdx N v → isIdx N.addN v := by rintro _ ⟨x, rfl, a, b⟩; exact ⟨x, rfl, a, by show x ≤ ((N.n + 1 : Nat) : Int); omega⟩
  cases k <;> simp only [Or] at h ⊢ <;> try exact h
  · split at h <;> first | exact h.elim | exact absurd rfl (hj rfl) | exact h
  · exact h2 h
  · split at h <;> first | exact h.elim | exact h2 h | exact h
  · exact h2 h
  · split at h <;> first | exact h.elim | exact h2 h | exact h
theorem setThings (h : Ty Kr (Or N r) κ w) (hst : κ r.b = some (.st, 12, 12)) (hu : ∀ b n u, κ b = some (.st, n, u) → b = r.b) {a : Option Addr} {c : Nat} (hs : Sl Kr κ .ths (a, N.n + 1, c)) {F : World → Prop} (f : ∀ w', Ty Kr (Or N.addN r) κ w' → But r.b w w' → F w') :
    SetK w ((⟨r.b, 0, none⟩ : Addr).add 4) (.slice a (N.n + 1) c) F := by
  rw [add_mk, Nat.zero_add]
  obtain ⟨cs, hb, h1, h2, h3⟩ := h _ _ _ _ hst
  refine SetK.mk hb (by omega) fun w' hb' bu => f w' (fun b k n u e => ?_) bu
  by_cases hbb : b = r.b
  · subst hbb
    rw [hst] at e; cases e
    refine ⟨_, hb', by simpa using h1, h2, fun i v hi hv => ?_⟩
    have hm : i % Kr.sz .st = i := Nat.mod_eq_of_lt hi
    rw [Array.getElem?_setIfInBounds] at hv
    split at hv
    · rename_i hii; subst hii
      rw [if_pos (by omega)] at hv; cases hv
      exact ⟨a, c, rfl, hs⟩
    · rename_i hne
      have := h3 i v hi hv
      exact Or.addN (fun _ => by rw [hm]; exact fun e => hne e.symm) this
  · obtain ⟨cs2, hb2, p1, p2, p3⟩ := h b k n u e
    exact ⟨cs2, bu.blk hb2 hbb, p1, p2, fun i v hi hv => Or.addN (fun hk => absurd (hu b n u (by rw [← hk]; exact e)) hbb) (p3 i v hi hv)⟩
structure TabX (κ : Ka RK) (N : Prm) (kt k : RK) (g x : Nat) (w : World) : Prop where
  in_ : κ g = some (kt, N.s, N.s)
  rows : ∃ W : List SL, W.length = N.s ∧ Blk w g (W.map slv).toArray (Kr.ty kt) ∧ ∀ i y, W[i]? = some y → Sl Kr κ k y ∧ N.n ≤ y.2.1 ∧ y.2.1 ≤ N.n + 2 ∧ (i < x → N.n + 1 ≤ y.2.1) ∧ (x ≤ i → y.2.1 ≤ N.n + 1)
theorem TabR.toX {kt k : RK} {g : Nat} (h : TabR κ N kt k g w) : TabX κ N kt k g 0 w := by
  obtain ⟨h1, W, h2, h3, h4⟩ := h
  refine ⟨h1, W, h2, h3, fun i y hy => ?_⟩
  obtain ⟨p1, p2, p3⟩ := h4 y (List.mem_of_getElem? hy)
  exact ⟨p1, p2, by omega, fun h => by omega, fun _ => p3⟩
theorem TabX.toR {kt k : RK} {g : Nat} (h : TabX κ N kt k g N.s w) : TabR κ N.addN kt k g w := by
  obtain ⟨h1, W, h2, h3, h4⟩ := h
  refine ⟨h1, W, h2, h3, fun y hy => ?_⟩
  obtain ⟨i, hi⟩ := List.getElem?_of_mem hy
  obtain ⟨p1, p2, p3, p4, _⟩ := h4 i y hi
  have := p4 (by rw [← h2]; exact (List.getElem?_eq_some_iff.1 hi).1)
  exact ⟨p1, this, p3⟩
theorem TabX.keep {X : RK → Prop} {kt k : RK} {g x : Nat} (h : TabX κ N kt k g x w) (p : Pk X κ κ' w w') (hkt : ¬ X kt) (ht : Ty Kr (Or N' r) κ' w') : TabX κ' N kt k g x w' := by
  obtain ⟨h1, W, h2, h3, h4⟩ := h
  obtain ⟨u', hu, h1'⟩ := p.le _ _ _ _ h1
  obtain ⟨cs, hb, e1, e2, _⟩ := ht _ _ _ _ h1'
  have : u' = N.s := by omega
  subst this
  exact ⟨h1', W, h2, (p.keep _ _ _ _ h1 hkt).trans h3, fun i y hy => ⟨(h4 i y hy).1.le p.le, (h4 i y hy).2⟩⟩
theorem TabX.but {kt k : RK} {g b x : Nat} (h : TabX κ N kt k g x w) (bu : But b w w') (hne : g ≠ b) : TabX κ N kt k g x w' := by
  obtain ⟨h1, W, h2, h3, h4⟩ := h
  exact ⟨h1, W, h2, bu.blk h3 hne, h4⟩
theorem TabX.shr {kt k : RK} {g x b0 : Nat} (h : TabX κ N kt k g x w) (h1 : kt ≠ .st) (h2 : k ≠ .st) : TabX (Go.Proofs.YtgggbmikmmljcaaGreat.shr κ b0) N kt k g x w := by
  obtain ⟨p1, W, p2, p3, p4⟩ := h
  exact ⟨shr_ne h1 p1, W, p2, p3, fun i y hy => ⟨Go.Proofs.YtgggbmikmmljcaaGreat.Sl.shr h2 (p4 i y hy).1, (p4 i y hy).2⟩⟩
theorem TabX.at_ {kt k : RK} {g x : Nat} (h : TabX κ N kt k g x w) {i : Int} (h0 : 0 ≤ i) (h1 : i < N.s) : ∃ a l c, w.cell? ((⟨g, 0, none⟩ : Addr).add (i.toNat * 1)) = some (.slice a l c) ∧ Sl Kr κ k (a, l, c) ∧ N.n ≤ l ∧ l ≤ N.n + 2 ∧ (x ≤ i.toNat → l ≤ N.n + 1) := by
  obtain ⟨_, W, h2, h3, h4⟩ := h
  have hx : i.toNat < W.length := by omega
  obtain ⟨p1, p2, p3, p4, p5⟩ := h4 i.toNat _ (List.getElem?_eq_getElem hx)
  refine ⟨(W[i.toNat]).1, (W[i.toNat]).2.1, (W[i.toNat]).2.2, ?_, p1, p2, p3, p5⟩
  rw [add_mk, Nat.zero_add, Nat.mul_one, h3.cell, List.getElem?_toArray, List.getElem?_map, List.getElem?_eq_getElem hx]; rfl
theorem TabX.set {kt k : RK} {g x : Nat} (h : TabX κ N kt k g x w) (hkt : kt = .tabI ∨ kt = .tabB) (ht : Ty Kr (Or N' r) κ w) {i : Int} (hi : i = x) (h1 : x < N.s) {a : Option Addr} {l c : Nat} (hs : Sl Kr κ k (a, l, c)) (hl1 : N.n + 1 ≤ l) (hl2 : l ≤ N.n + 2) {F : World → Prop}
    (f : ∀ w', TabX κ N kt k g (x + 1) w' → Ty Kr (Or N' r) κ w' → But g w w' → F w') : SetK w ((⟨g, 0, none⟩ : Addr).add (i.toNat * 1)) (.slice a l c) F := by
  subst hi
  obtain ⟨p1, W, p2, p3, p4⟩ := h
  rw [add_mk, Nat.zero_add, Nat.mul_one, Int.toNat_natCast]
  have key := ht.set p1 h1 (v := .slice a l c) (by rcases hkt with rfl | rfl <;> exact ⟨a, l, c, rfl⟩) (F := fun w' => Ty Kr (Or N' r) κ w' ∧ But g w w') fun w' h' b' => ⟨h', b'⟩
  refine ⟨key.1, f _ ⟨p1, W.set x (a, l, c), by simpa using p2, ?_, fun j y hy => ?_⟩ key.2.1 key.2.2⟩
  · have := heap_setCell_same w g x _ _ (.slice a l c) p3
    have e : ((W.map slv).toArray.setIfInBounds x (.slice a l c)) = ((W.set x (a, l, c)).map slv).toArray := by apply Array.ext'; simp [List.map_set, slv]
    rw [e] at this; exact this
  · rw [List.getElem?_set] at hy
    split at hy
    · rename_i hxj; subst hxj
      rw [if_pos (by omega)] at hy; cases hy
      exact ⟨hs, by show N.n ≤ l; omega, hl2, fun _ => hl1, fun h => by omega⟩
    · obtain ⟨q1, q2, q3, q4, q5⟩ := p4 j y hy
      exact ⟨q1, q2, q3, fun h => q4 (by omega), fun h => q5 (by omega)⟩
end
end Go.Proofs.YtgggbmikmmljcaaGreat

namespace Go.Proofs.YtgggbmikmmljcaaGreat
open Go Go.V Go.Proofs
open Go.RowKit (Below)
section
variable {κ κ' κ1 κ2 κ3 : Ka RK} {N N' : Prm} {r : Rb} {w w' w2 w0 : World}
structure MkS (O : OkF RK) (κ0 : Ka RK) (w0 : World) (L : List Nat) (Ls : List SL) (κ : Ka RK) (w : World) : Prop where
  ty : Ty Kr O κ w
  pk : Pk (· = .bools) κ0 κ w0 w
  boxes : ∀ b ∈ L, Blk w b #[.bool false] 4 ∧ κ b = none
  sls : ∀ s ∈ Ls, Sl Kr κ .bools s
def nBools (k : RK) : Bool := match k with | .bools => false | _ => true
def nInts (k : RK) : Bool := match k with | .ints => false | _ => true
def nThs (k : RK) : Bool := match k with | .ths => false | _ => true
theorem MkS.cel {O : OkF RK} {L : List Nat} {Ls : List SL} (h : MkS O κ1 w0 L Ls κ w) : Cel (subK κ1 nBools w0) w := h.pk.celK fun k hk e => by subst e; cases hk
theorem MkS.box {O : OkF RK} {L : List Nat} {Ls : List SL} (h : MkS O κ1 w0 L Ls κ w) {te : Nat} (hte : te = 4) {F : Addr → World → Prop} (f : ∀ b w', MkS O κ1 w0 (b :: L) Ls κ w' → F ⟨b, 0, none⟩ w') :
    AllocK w #[.bool false] te fun b w' => Cel (subK κ1 nBools w0) w' ∧ F b w' := AllocK.mk fun b w' hb hB hx => by
  subst hte
  have h' : MkS O κ1 w0 (b :: L) Ls κ w' := ⟨h.ty.ext hx, h.pk.trans (Pk.ofExt _ h.ty hx), fun b2 hb2 => by
    rcases List.mem_cons.1 hb2 with rfl | hb2
    · exact ⟨hB, h.ty.none_top (by omega)⟩
    · exact ⟨(h.boxes b2 hb2).1.ext hx, (h.boxes b2 hb2).2⟩, h.sls⟩
  exact ⟨h'.cel, f b w' h'⟩
theorem MkS.app {N : Prm} {L : List Nat} {Ls : List SL} (h : MkS (Or N r) κ1 w0 L Ls κ w) {a : Option Addr} {l c b ty : Nat} (hs : (a, l, c) ∈ Ls) (hb : b ∈ L) (hl : l ≤ 2000000) {F : Option Addr → Nat → Nat → World → Prop}
    (f : ∀ a' c' w' κ', MkS (Or N r) κ1 w0 L ((a', l + 1, c') :: Ls) κ' w' → F a' (l + 1) c' w') :
    ∃ a' l' c' w', Sem.run Tryz.prog (Builtin.append_ #[84, 84] ty #[.slice a l c, .slice (some ⟨b, 0, none⟩) 1 1]) w = .ok (.slice a' l' c') w' ∧ (Cel (subK κ1 nBools w0) w' ∧ F a' l' c' w') := by
  obtain ⟨hB, hn⟩ := h.boxes b hb
  obtain ⟨a', c', w', κ', q1, q2, q3, q4⟩ := Sl.pushB (ty := ty) (okR N r) rsltB h.ty (h.sls _ hs) hB rfl (fun j v hj => by
    match j with
    | 0 => cases hj; exact ⟨_, rfl⟩
    | j + 1 => cases hj) (by omega)
  have h' : MkS (Or N r) κ1 w0 L ((a', l + 1, c') :: Ls) κ' w' := ⟨q2, h.pk.trans q4, fun b2 hb2 => ⟨q4.blk (h.boxes b2 hb2).1 (h.boxes b2 hb2).2, q4.free b2 (h.boxes b2 hb2).1.lt (h.boxes b2 hb2).2⟩, fun s hs2 => by
    rcases List.mem_cons.1 hs2 with rfl | hs2
    · exact q3
    · exact (h.sls s hs2).le q4.le⟩
  exact ⟨a', l + 1, c', w', q1, h'.cel, f a' c' w' κ' h'⟩
structure MkL (κ0 : Ka RK) (w0 : World) (N : Prm) (r : Rb) (k : Nat) (κ : Ka RK) (w : World) : Prop where
  ty : Ty Kr (Or N.addN r) κ w
  st : κ r.b = some (.st, 12, 12)
  fr : FrM κ0 κ w0 w
  tw : TabX κ N .tabI .ints r.gw k w
  ta : TabX κ N .tabB .bools r.ga k w
  tm : TabX κ N .tabB .bools r.gm k w
  tl : TabX κ N .tabB .bools r.gl k w
theorem tabNe {a b n u n' u' : Nat} (h1 : κ a = some (.tabI, n, u)) (h2 : κ b = some (.tabB, n', u')) : a ≠ b := fun e => by rw [e, h2] at h1; cases h1
theorem MkL.leaf {k : Nat} {L : List Nat} {Ls : List SL} (hne : r.ga ≠ r.gm ∧ r.ga ≠ r.gl ∧ r.gm ≠ r.gl) (fr : FrM κ κ1 w w0) (st : κ1 r.b = some (.st, 12, 12)) (tw : TabX κ1 N .tabI .ints r.gw (k + 1) w0) (ta : TabX κ1 N .tabB .bools r.ga k w0) (tm : TabX κ1 N .tabB .bools r.gm k w0) (tl : TabX κ1 N .tabB .bools r.gl k w0)
    (hk : k < N.s) (h : MkS (Or N.addN r) κ1 w0 L Ls κ2 w2) {a1 a2 a3 : Option Addr} {l1 l2 l3 c1 c2 c3 : Nat} (m1 : (a1, l1 + 1, c1) ∈ Ls) (m2 : (a2, l2 + 1, c2) ∈ Ls) (m3 : (a3, l3 + 1, c3) ∈ Ls) (b1 : N.n ≤ l1 ∧ l1 ≤ N.n + 1) (b2 : N.n ≤ l2 ∧ l2 ≤ N.n + 1) (b3 : N.n ≤ l3 ∧ l3 ≤ N.n + 1)
    {F : World → Prop} (f : ∀ w', MkL κ w N r (k + 1) κ2 w' → F w') :
    (0 ≤ (k : Int) ∧ (k : Int) < (N.s : Nat)) ∧ SetK w2 ((⟨r.ga, 0, none⟩ : Addr).add ((k : Int).toNat * 1)) (.slice a1 (l1 + 1) c1) fun w73 => (0 ≤ (k : Int) ∧ (k : Int) < (N.s : Nat)) ∧ SetK w73 ((⟨r.gm, 0, none⟩ : Addr).add ((k : Int).toNat * 1)) (.slice a2 (l2 + 1) c2) fun w75 =>
      (0 ≤ (k : Int) ∧ (k : Int) < (N.s : Nat)) ∧ SetK w75 ((⟨r.gl, 0, none⟩ : Addr).add ((k : Int).toNat * 1)) (.slice a3 (l3 + 1) c3) F := by
  have nb : ¬ (RK.tabB = .bools) := by decide
  have ni : ¬ (RK.tabI = .bools) := by decide
  have ta := ta.keep h.pk nb h.ty
  have tm := tm.keep h.pk nb h.ty
  have tl := tl.keep h.pk nb h.ty
  have tw := tw.keep h.pk ni h.ty
  have st2 : κ2 r.b = some (.st, 12, 12) := by
    obtain ⟨u', hu, e⟩ := h.pk.le _ _ _ _ st
    obtain ⟨cs, _, e1, e2, _⟩ := h.ty _ _ _ _ e
    have : u' = 12 := by omega
    subst this; exact e
  refine ⟨by omega, ta.set (.inr rfl) h.ty rfl hk (h.sls _ m1) (by omega) (by omega) fun w73 ta ty73 bu73 => ⟨by omega, (tm.but bu73 (Ne.symm hne.1)).set (.inr rfl) ty73 rfl hk (h.sls _ m2) (by omega) (by omega) fun w75 tm ty75 bu75 => ⟨by omega, ((tl.but bu73 (Ne.symm hne.2.1)).but bu75 (Ne.symm hne.2.2)).set (.inr rfl) ty75 rfl hk (h.sls _ m3) (by omega) (by omega) fun w77 tl ty77 bu77 => ?_⟩⟩⟩
  refine f w77 ⟨ty77, st2, (((fr.trans (FrM.of h.pk)).butK bu73 ta.in_).butK bu75 tm.in_).butK bu77 tl.in_, ((tw.but bu73 (tabNe tw.in_ ta.in_)).but bu75 (tabNe tw.in_ tm.in_)).but bu77 (tabNe tw.in_ tl.in_), (ta.but bu75 hne.1).but bu77 hne.2.1, tm.but bu77 hne.2.2, tl⟩
theorem tyC4 (ty : Ty Kr (Or N r) κ w) (st : κ r.b = some (.st, 12, 12)) {i : Nat} (hi : i < 12) : ∃ v, w.cell? ((⟨r.b, 0, none⟩ : Addr).add i) = some v ∧ Or N r κ .st i v := by
  obtain ⟨v, h1, h2⟩ := ty.cell st hi
  rw [show i % Kr.sz .st = i from Nat.mod_eq_of_lt hi] at h2
  exact ⟨v, by rw [add_mk, Nat.zero_add]; exact h1, h2⟩
theorem subAdd {P : RK → Bool} {b n u : Nat} {k : RK} (e : κ b = some (k, n, u)) (hP : P k = true) (o i : Nat) : (subK κ P w).cell? ((⟨b, o, none⟩ : Addr).add i) = w.cell? ((⟨b, o, none⟩ : Addr).add i) := by
  rw [add_mk]; exact subK_cell e hP _
set_option maxRecDepth 100000 in
theorem c23 (h : RR κ N r w) (x : Int) (hn : N.n + 1 ≤ 1000) : Calls Tryz.prog 23 #[rp r, .int .i64 x] w fun en w' => ∃ p e, en = .returned (.tuple #[.int .i64 p, .int .i64 e]) ∧
    ((¬ N.isS x ∧ e = 2 ∧ w' = w) ∨ (N.isS x ∧ e = 0 ∧ ∃ κ', RR κ' N.addN r w' ∧ FrM κ κ' w w')) := by
  refine calls23 _ _ (fun _ e w' => (¬ N.isS x ∧ e = 2 ∧ w' = w) ∨ (N.isS x ∧ e = 0 ∧ ∃ κ', RR κ' N.addN r w' ∧ FrM κ κ' w w')) w ?_
  refine (c58 h x).mono ?_
  rintro en w4 ⟨p, rfl, hp, rfl⟩
  refine ⟨_, rfl, BoolK.mk (fun t => .inl ⟨by rw [hp] at t; simpa using t, rfl, rfl⟩) (fun t => ?_)⟩
  have hS : N.isS x := by rw [hp] at t; simpa using t
  have ls := h.ls
  refine h.drew fun w6 h6 hx6 p6 => ?_
  refine ⟨subK κ nThs w6, subK_cel (fun _ _ _ _ _ _ _ => rfl), ?_⟩
  obtain ⟨a, c, hc, hs⟩ := h6.c4
  obtain ⟨a3, c3, hc3, hs3⟩ := h6.c3
  obtain ⟨g3, o3, n3, u3, v3, rfl, hk3, hu3, hc3', y3, rfl⟩ := h6.el hs3 rfl hS.1 hS.2
  have sc : ∀ i, (subK κ nThs w6).cell? ((⟨r.b, 0, none⟩ : Addr).add i) = w6.cell? ((⟨r.b, 0, none⟩ : Addr).add i) := fun i => subAdd h6.st rfl 0 i
  refine ⟨a, N.n, c, (sc 4).trans hc, _, _, _, (sc 3).trans hc3, hS, y3, (subAdd hk3 rfl o3 _).trans hc3', ?_⟩
  refine AllocK.mk fun b w15 hb hB hx15 => ?_
  have h15 := h6.ext hx15
  have p15 : Pk (· = .ths) κ κ w6 w15 := Pk.ofExt _ h6.ty hx15
  have cel : ∀ {κ' : Ka RK} {w' : World}, Pk (· = .ths) κ κ' w6 w' → Cel (subK κ nThs w6) w' := fun p => p.celK fun k hk e => by subst e; cases hk
  refine ⟨cel p15, ?_⟩
  obtain ⟨a', c', w17, κ1, q1, q2, q3, q4⟩ := Sl.pushB (ty := 44) (okR N r) rsltT h15.ty hs hB rfl (fun j v hj => by
    match j with
    | 0 => cases hj; exact ⟨_, rfl, hS⟩
    | 1 => cases hj; exact ⟨_, rfl⟩
    | 2 => cases hj; exact ⟨_, rfl⟩
    | 3 => cases hj; exact ⟨_, rfl⟩
    | 4 => cases hj; exact ⟨_, rfl⟩
    | 5 => cases hj; exact ⟨_, rfl⟩
    | 6 => cases hj; exact ⟨none, 0, 0, rfl, Sl.nil _ _ _, Nat.zero_le _⟩
    | j + 7 => cases hj) (by omega)
  refine ⟨a', _, c', w17, q1, ?_⟩
  have g17 : RR κ1 N r w17 := h15.same (q4.mono (by rintro _ rfl; simp [NT])) q2
  have fr17 : FrM κ κ1 w4 w17 := (FrM.of p6).trans ((FrM.of p15).trans (FrM.of q4))
  have st1 : shr κ1 r.b r.b = some (.st, 12, 12) := by unfold shr; rw [if_pos rfl]; exact g17.st
  refine setThings (Ty.shr (b0 := r.b) q2) st1 (fun b n u e => (shr_some e).2 rfl) (Go.Proofs.YtgggbmikmmljcaaGreat.Sl.shr (by decide) q3) fun w19 ty19 bu19 => ?_
  have frs : FrM κ (shr κ1 r.b) w4 w17 := ⟨fr17.os, fr17.tape, fr17.output, fr17.size, fr17.block, fun b hb e => shr_none (fr17.free b hb e)⟩
  have nst : ∀ {g n u : Nat} {k : RK}, κ1 g = some (k, n, u) → k ≠ .st → g ≠ r.b := fun e hk hg => by rw [hg, g17.st] at e; cases e; exact hk rfl
  have M0 : MkL κ w4 N r 0 (shr κ1 r.b) w19 := ⟨ty19, st1, frs.butK bu19 st1, ((g17.tw.toX.shr (by decide) (by decide)).but bu19 (nst g17.tw.in_ (by decide))), ((g17.ta.toX.shr (by decide) (by decide)).but bu19 (nst g17.ta.in_ (by decide))), ((g17.tm.toX.shr (by decide) (by decide)).but bu19 (nst g17.tm.in_ (by decide))), ((g17.tl.toX.shr (by decide) (by decide)).but bu19 (nst g17.tl.in_ (by decide)))⟩
  refine ⟨fun i w' => ∃ κ2 k, i = (k : Nat) ∧ k ≤ N.s ∧ MkL κ w4 N r k κ2 w', fun i _ => N.s - i.toNat, ⟨⟨_, 0, rfl, Nat.zero_le _, M0⟩, trivial⟩, ?_⟩
  clear M0 frs fr17 nst g17 q4 q3 q2 q1 hB cel p15 h15 hx15 ty19 bu19 st1
  rintro w22 _ ⟨κ2, k, rfl, hk, M⟩
  obtain ⟨v0, hv0, hO0⟩ := tyC4 M.ty M.st (i := 0) (by omega)
  rw [show v0 = .int .i64 N.s from hO0] at hv0
  refine ⟨N.s, by rw [← add_mk0 (⟨r.b, 0, none⟩ : Addr)]; exact hv0, BoolK.mk (fun tk => ?_) (fun tk => ?_)⟩
  rotate_left
  · -- all sites
    have tk := of_decide_eq_false tk
    have : k = N.s := by omega
    subst this
    obtain ⟨v4, hv4, a4, c4, rfl, hs4⟩ := tyC4 M.ty M.st (i := 4) (by omega)
    refine ⟨_, _, _, hv4, .inr ⟨hS, rfl, κ2, ?_, M.fr⟩⟩
    exact ⟨M.ty, M.st, M.tw.toR, M.ta.toR, M.tm.toR, M.tl.toR, h.ne, h.ls, hn, h.ln.2⟩
  have tk := of_decide_eq_true tk
  have hkS : k < N.s := by omega
  have e : IntKind.wrap .i64 ((k : Int) + 1) = ((k + 1 : Nat) : Int) := wrap_succ (by omega)
  rw [e]
  -- the weights
  refine DrewK.mk fun w26 hx26 => ?_
  have P26 : Pk (fun _ => False) κ2 κ2 w22 w26 := Pk.ofExt _ M.ty hx26
  have T26 := M.ty.ext hx26
  have tw := M.tw.keep P26 (fun h => h) T26
  have ta := M.ta.keep P26 (fun h => h) T26
  have tm := M.tm.keep P26 (fun h => h) T26
  have tl := M.tl.keep P26 (fun h => h) T26
  obtain ⟨v5, hv5, hO5⟩ := tyC4 T26 M.st (i := 5) (by omega)
  rw [show v5 = _ from hO5] at hv5
  refine ⟨subK κ2 nInts w26, subK_cel (fun _ _ _ _ _ _ _ => rfl), ?_⟩
  have sc : ∀ i, (subK κ2 nInts w26).cell? ((⟨r.b, 0, none⟩ : Addr).add i) = w26.cell? ((⟨r.b, 0, none⟩ : Addr).add i) := fun i => subAdd M.st rfl 0 i
  obtain ⟨aw, lw, cw, hcw, hsw, w1, w2', w3'⟩ := tw.at_ (i := (k : Int)) (by omega) tk
  have w3' := w3' (by simp)
  refine ⟨_, _, _, (sc 5).trans hv5, _, _, _, (sc 5).trans hv5, ⟨by omega, tk⟩, aw, lw, cw, (subAdd tw.in_ rfl 0 _).trans hcw, ?_⟩
  refine AllocK.mk fun b34 w35 hb34 hB34 hx35 => ?_
  have T35 := T26.ext hx35
  have P35 : Pk (· = .ints) κ2 κ2 w26 w35 := Pk.ofExt _ T26 hx35
  have cel : ∀ {κ' : Ka RK} {w' : World}, Pk (· = .ints) κ2 κ' w26 w' → Cel (subK κ2 nInts w26) w' := fun p => p.celK fun k hk e => by subst e; cases hk
  refine ⟨cel P35, ?_⟩
  obtain ⟨a', c', w37, κ3, q1, q2, q3, q4⟩ := Sl.pushB (ty := 43) (okR N.addN r) rsltI T35 hsw hB34 rfl (fun j v hj => by
    match j with
    | 0 => cases hj; exact ⟨_, rfl⟩
    | j + 1 => cases hj) (by omega)
  have P37 := P35.trans q4
  refine ⟨a', _, c', w37, q1, cel P37, ⟨by omega, tk⟩, ?_⟩
  have tw := tw.keep P37 (by decide) q2
  have ta := ta.keep P37 (by decide) q2
  have tm := tm.keep P37 (by decide) q2
  have tl := tl.keep P37 (by decide) q2
  have st3 : κ3 r.b = some (.st, 12, 12) := by
    obtain ⟨u', hu, e⟩ := P37.le _ _ _ _ M.st
    obtain ⟨cs, _, e1, e2, _⟩ := q2 _ _ _ _ e
    have : u' = 12 := by omega
    subst this; exact e
  refine tw.set (.inl rfl) q2 rfl hkS q3 (by omega) (by omega) fun w39 tw T39 bu39 => ?_
  have ta := ta.but bu39 (Ne.symm (tabNe tw.in_ ta.in_))
  have tm := tm.but bu39 (Ne.symm (tabNe tw.in_ tm.in_))
  have tl := tl.but bu39 (Ne.symm (tabNe tw.in_ tl.in_))
  have fr39 : FrM κ κ3 w4 w39 := (((M.fr.trans (FrM.of P26)).trans (FrM.of P37)).butK bu39 tw.in_)
  -- the bools
  refine DrewK.mk fun w40 hx40 => ?_
  have P40 : Pk (fun _ => False) κ3 κ3 w39 w40 := Pk.ofExt _ T39 hx40
  have T40 := T39.ext hx40
  have tw := tw.keep P40 (fun h => h) T40
  have ta := ta.keep P40 (fun h => h) T40
  have tm := tm.keep P40 (fun h => h) T40
  have tl := tl.keep P40 (fun h => h) T40
  have fr40 := fr39.trans (FrM.of P40)
  obtain ⟨v6, hv6, hO6⟩ := tyC4 T40 st3 (i := 6) (by omega)
  rw [show v6 = _ from hO6] at hv6
  obtain ⟨v7, hv7, hO7⟩ := tyC4 T40 st3 (i := 7) (by omega)
  rw [show v7 = _ from hO7] at hv7
  obtain ⟨v8, hv8, hO8⟩ := tyC4 T40 st3 (i := 8) (by omega)
  rw [show v8 = _ from hO8] at hv8
  refine ⟨subK κ3 nBools w40, subK_cel (fun _ _ _ _ _ _ _ => rfl), ?_⟩
  have sc : ∀ i, (subK κ3 nBools w40).cell? ((⟨r.b, 0, none⟩ : Addr).add i) = w40.cell? ((⟨r.b, 0, none⟩ : Addr).add i) := fun i => subAdd st3 rfl 0 i
  obtain ⟨a1, l1, c1, d1, s1, x1, y1, z1⟩ := ta.at_ (i := (k : Int)) (by omega) tk
  obtain ⟨a2, l2, c2, d2, s2, x2, y2, z2⟩ := tm.at_ (i := (k : Int)) (by omega) tk
  obtain ⟨a3, l3, c3, d3, s3, x3, y3, z3⟩ := tl.at_ (i := (k : Int)) (by omega) tk
  have z1 := z1 (by simp)
  have z2 := z2 (by simp)
  have z3 := z3 (by simp)
  refine ⟨_, _, _, (sc 6).trans hv6, _, _, _, (sc 7).trans hv7, _, _, _, (sc 8).trans hv8, _, _, _, (sc 6).trans hv6, ⟨by omega, tk⟩, a1, l1, c1, (subAdd ta.in_ rfl 0 _).trans d1, _, _, _, (sc 7).trans hv7, ⟨by omega, tk⟩, a2, l2, c2, (subAdd tm.in_ rfl 0 _).trans d2, _, _, _, (sc 8).trans hv8, ⟨by omega, tk⟩, a3, l3, c3, (subAdd tl.in_ rfl 0 _).trans d3, ?_⟩
  have H : MkS (Or N.addN r) κ3 w40 [] [(a1, l1, c1), (a2, l2, c2), (a3, l3, c3)] κ3 w40 := ⟨T40, Pk.refl _ _ _, fun b hb => (by cases hb), fun s hs => by
    simp only [List.mem_cons, List.not_mem_nil, or_false] at hs
    rcases hs with rfl | rfl | rfl
    · exact s1
    · exact s2
    · exact s3⟩
  have B1 : N.n ≤ l1 ∧ l1 ≤ N.n + 1 := ⟨x1, z1⟩
  have B2 : N.n ≤ l2 ∧ l2 ≤ N.n + 1 := ⟨x2, z2⟩
  have B3 : N.n ≤ l3 ∧ l3 ≤ N.n + 1 := ⟨x3, z3⟩
  have L1 : l1 ≤ 2000000 := by omega
  have L2 : l2 ≤ 2000000 := by omega
  have L3 : l3 ≤ 2000000 := by omega
  have fin : ∀ {κ4 : Ka RK} {w' : World}, MkL κ w4 N r (k + 1) κ4 w' → (∃ κ2 k2, ((k + 1 : Nat) : Int) = (k2 : Nat) ∧ k2 ≤ N.s ∧ MkL κ w4 N r k2 κ2 w') ∧ N.s - (((k + 1 : Nat) : Int)).toNat < N.s - (k : Int).toNat := fun hM => ⟨⟨_, k + 1, rfl, by omega, hM⟩, by simp; omega⟩
  clear hv6 hv7 hv8 hv5 hv0 sc T39 T35 T26 q1 q2 q3 q4 P26 P35 P37 P40 hO6 hO7 hO8 hO5 hO0 d1 d2 d3 s1 s2 s3 x1 y1 z1 x2 y2 z2 x3 y3 z3 cel
  repeat' (first
    | exact MkL.leaf h.ne fr40 st3 tw ta tm tl hkS ‹MkS _ _ _ _ _ _ _› (a1 := _) (by first | exact List.mem_cons_self | exact List.mem_cons_of_mem _ List.mem_cons_self | exact List.mem_cons_of_mem _ (List.mem_cons_of_mem _ List.mem_cons_self)) (by first | exact List.mem_cons_self | exact List.mem_cons_of_mem _ List.mem_cons_self | exact List.mem_cons_of_mem _ (List.mem_cons_of_mem _ List.mem_cons_self)) (by first | exact List.mem_cons_self | exact List.mem_cons_of_mem _ List.mem_cons_self | exact List.mem_cons_of_mem _ (List.mem_cons_of_mem _ List.mem_cons_self)) B1 B2 B3 fun w' hM => fin hM
    | refine MkS.box ‹MkS _ _ _ _ _ _ _› rfl fun b w H => ?_
    | refine MkS.app ‹MkS _ _ _ _ _ _ _› (by simp) (by simp) (by assumption) fun a c w κ H => ?_
    | refine ⟨?_, ?_⟩)
end
end Go.Proofs.YtgggbmikmmljcaaGreat

namespace Go.Proofs.YtgggbmikmmljcaaGreat
open Go Go.V Go.Proofs
open Go.RowKit (Below)
/-! (*manystrand/manystrandref27.Count).Pass -/
def N26 (o1 : Option Addr) (x2 : Int) (x3 : Int) (x4 : Int) (K : Int → World → Prop) (w : World) : Prop :=
 Calls Tryz.prog 59 #[(.pointer o1), (.int .i64 x4)] w fun e7 w6 =>
 ∃ (o5 : Option Addr), e7 = .returned (.pointer o5) ∧
 (Calls Tryz.prog 58 #[(.pointer o1), (.int .i64 x2)] w6 fun e10 w9 =>
 ∃ (p8 : Bool), e10 = .returned (.bool p8) ∧
 (BoolK (!p8)
 (K 2 w9)
 (Calls Tryz.prog 58 #[(.pointer o1), (.int .i64 x3)] w9 fun e13 w12 =>
 ∃ (p11 : Bool), e13 = .returned (.bool p11) ∧
 (BoolK (!p11)
 (K 2 w12)
 (∃ (J14 : World → Prop),
 (∀ (w15 : World), J14 w15 →
 ∃ (J16 : World → Prop),
 (∀ (w17 : World), J16 w17 →
 BoolK ((x2 : Int) == x3)
 (K 0 w17)
 (AddrK o5 fun b18 =>
 ∃ (x19 : Int), w17.cell? b18 = some (.int .i64 x19) ∧
 (BoolK ((x2 : Int) == x19)
 (DrewK w17 fun w20 =>
 AddrK o5 fun b21 =>
 ∃ (x22 : Int), w20.cell? (b21.add 1) = some (.int .i64 x22) ∧
 (AddrK o1 fun b23 =>
 ∃ (a24 : Option Addr) (l24 : Nat) (c24 : Nat), w20.cell? (b23.add 3) = some (.slice a24 l24 c24) ∧
 ((0 ≤ (x2 : Int) ∧ (x2 : Int) < (l24 : Nat)) ∧
 AddrK a24 fun b25 =>
 ∃ (x26 : Int), w20.cell? (b25.add ((x2 : Int).toNat * 1)) = some (.int .i64 x26) ∧
 (AddrK o5 fun b27 =>
 SetK w20 (b27.add 1) (.int .i64 (IntKind.wrap .i64 (x22 + 65536))) fun w28 =>
 AddrK o5 fun b29 =>
 SetK w28 (b29.add 2) (.int .i64 x26) fun w30 =>
 Calls Tryz.prog 60 #[(.pointer o1), (.int .i64 x2), (.int .i64 x3), (.string (⟨#[112, 97, 115, 115]⟩ : ByteArray)), (.int .i64 x4), (.int .i64 65536)] w30 fun e32 w31 =>
 e32 = .returned (.tuple #[]) ∧
 (K 0 w31)))))
 (AddrK o1 fun b33 =>
 ∃ (a34 : Option Addr) (l34 : Nat) (c34 : Nat), w17.cell? (b33.add 5) = some (.slice a34 l34 c34) ∧
 ((0 ≤ (x2 : Int) ∧ (x2 : Int) < (l34 : Nat)) ∧
 AddrK a34 fun b35 =>
 ∃ (a36 : Option Addr) (l36 : Nat) (c36 : Nat), w17.cell? (b35.add ((x2 : Int).toNat * 1)) = some (.slice a36 l36 c36) ∧
 ((0 ≤ (IntKind.wrap .i64 (x4 - 1) : Int) ∧ (IntKind.wrap .i64 (x4 - 1) : Int) < (l36 : Nat)) ∧
 AddrK a36 fun b37 =>
 ∃ (x38 : Int), w17.cell? (b37.add ((IntKind.wrap .i64 (x4 - 1) : Int).toNat * 1)) = some (.int .i64 x38) ∧
 (BoolK (decide ((x38 : Int) > 1))
 (Calls Tryz.prog 64 #[(.pointer o1), (.agg #[(.int .i64 x2), (.int .i64 x3), (.int .i64 x4)])] w17 fun e40 w39 =>
 e40 = .returned (.tuple #[]) ∧
 (K 0 w39))
 (∃ (J41 : World → Prop),
 (∀ (w42 : World), J41 w42 →
 AddrK o1 fun b43 =>
 ∃ (a44 : Option Addr) (l44 : Nat) (c44 : Nat), w42.cell? (b43.add 9) = some (.slice a44 l44 c44) ∧
 (AllocK w42 (#[(.int .i64 x2), (.int .i64 x3), (.int .i64 x4)]) 104 fun b45 w46 =>
 ∃ (a47 : Option Addr), ∃ (l47 : Nat), ∃ (c47 : Nat), ∃ (w48 : World), Sem.run Tryz.prog (Builtin.append_ #[47, 47] 47 #[(.slice a44 l44 c44), (.slice (some b45) 1 1)]) w46 = .ok (.slice a47 l47 c47) w48 ∧
 (AddrK o1 fun b49 =>
 SetK w48 (b49.add 9) (.slice a47 l47 c47) fun w50 =>
 K 0 w50))) ∧
 (Calls Tryz.prog 65 #[(.pointer o1), (.int .i64 x2), (.int .i64 x4)] w17 fun e53 w52 =>
 ∃ (p51 : Bool), e53 = .returned (.bool p51) ∧
 (BoolK (!p51)
 (AddrK o5 fun b54 =>
 ∃ (x55 : Int), w52.cell? b54 = some (.int .i64 x55) ∧
 (Calls Tryz.prog 60 #[(.pointer o1), (.int .i64 x2), (.int .i64 x55), (.string (⟨#[109, 111, 114, 101]⟩ : ByteArray)), (.int .i64 x4), (.int .i64 0)] w52 fun e57 w56 =>
 e57 = .returned (.tuple #[]) ∧
 (J41 w56)))
 (J41 w52))))))))))) ∧
 (BoolK o5.isNone
 (K 5 w15)
 (AddrK o5 fun b58 =>
 ∃ (x59 : Int), w15.cell? b58 = some (.int .i64 x59) ∧
 (BoolK ((x2 : Int) != x59)
 (AddrK o1 fun b60 =>
 ∃ (a61 : Option Addr) (l61 : Nat) (c61 : Nat), w15.cell? (b60.add 5) = some (.slice a61 l61 c61) ∧
 ((0 ≤ (x2 : Int) ∧ (x2 : Int) < (l61 : Nat)) ∧
 AddrK a61 fun b62 =>
 ∃ (a63 : Option Addr) (l63 : Nat) (c63 : Nat), w15.cell? (b62.add ((x2 : Int).toNat * 1)) = some (.slice a63 l63 c63) ∧
 ((0 ≤ (IntKind.wrap .i64 (x4 - 1) : Int) ∧ (IntKind.wrap .i64 (x4 - 1) : Int) < (l63 : Nat)) ∧
 AddrK a63 fun b64 =>
 ∃ (x65 : Int), w15.cell? (b64.add ((IntKind.wrap .i64 (x4 - 1) : Int).toNat * 1)) = some (.int .i64 x65) ∧
 (BoolK ((x65 : Int) == 0)
 (K 5 w15)
 (J16 w15)))))
 (J16 w15))))) ∧
 (BoolK (!o5.isNone)
 (AddrK o5 fun b66 =>
 ∃ (x67 : Int), w12.cell? b66 = some (.int .i64 x67) ∧
 (BoolK ((x2 : Int) == x67)
 (Calls Tryz.prog 63 #[(.pointer o1), (.int .i64 x4)] w12 fun e70 w69 =>
 ∃ (s68 : ByteArray), e70 = .returned (.string s68) ∧
 (BoolK (!((s68 : ByteArray).toList == ((⟨#[108, 105, 118, 101]⟩ : ByteArray) : ByteArray).toList))
 (K 200 w69)
 (J14 w69)))
 (J14 w12)))
 (J14 w12)))))))
def ann26 : Ann := (.two .nil (.two .nil (.two (.two .nil (.two (.two .nil .nil) .nil)) (.cut [] [0, 1, 2, 3, 9] (.two .nil (.two (.two .nil .nil) .nil)) (.cut [] [0, 1, 2, 3, 9] (.two .nil (.two (.two .nil .nil) .nil)) (.two (.two .nil (.two (.two .nil .nil) .nil)) (.two (.two .nil (.two (.two (.anyC 20 (.take 0 (.take 1 (.take 2 (.take 3 (.take 4 (.take 5 (.take 6 (.take 7 (.take 8 (.take 9 (.take 10 (.take 11 (.take 12 (.take 13 (.take 14 (.take 15 (.one 16 (.take 17 (.take 18 (.one 19 .done))))))))))))))))))))) (.two .nil (.two .nil .nil))) .nil)) (.two (.two .nil (.two (.two .nil (.two .nil .nil)) .nil)) (.cut [] [0, 1, 2, 3] (.two .nil (.two .nil .nil)) (.two .nil (.two .nil .nil)))))))))))
noncomputable def code26 : Code := match Tryz.f26.body with | some c => c | none => .skip
theorem wp26 (o1 : Option Addr) (x2 : Int) (x3 : Int) (x4 : Int) (K : Int → World → Prop) (w : World) : WP Tryz.prog tab code26 ann26 (fnQ tab Tryz.f26.results.toList [(.one (.int .i64))] K) (argE 0 [(.pointer o1), (.int .i64 x2), (.int .i64 x3), (.int .i64 x4)]) w = N26 o1 x2 x3 x4 K w := by kernel_rfl
theorem calls26 (o1 : Option Addr) (x2 : Int) (x3 : Int) (x4 : Int) (K : Int → World → Prop) (w : World) (h : N26 o1 x2 x3 x4 K w) : Calls Tryz.prog 26 #[(.pointer o1), (.int .i64 x2), (.int .i64 x3), (.int .i64 x4)] w fun en w' => ∃ (x71 : Int), en = .returned (.int .i64 x71) ∧ K x71 w' :=
 have e : (fun en w' => ExShs [(.one (.int .i64))] fun vs => en = .returned (tupled vs) ∧ ap [(.one (.int .i64))] K vs fun p => p w') = (fun (en : Ending) (w' : World) => ∃ (x71 : Int), en = .returned (.int .i64 x71) ∧ K x71 w') := by kernel_rfl
 e ▸ fn_sound tabOk mixed Tryz.func26 (by kernel_rfl : Tryz.f26.body = some code26) ann26 [(.pointer o1), (.int .i64 x2), (.int .i64 x3), (.int .i64 x4)] [(.one (.int .i64))] K w (by kernel_rfl) ((wp26 o1 x2 x3 x4 K w).symm ▸ h)
end Go.Proofs.YtgggbmikmmljcaaGreat

namespace Go.Proofs.YtgggbmikmmljcaaGreat
open Go Go.V Go.Proofs
open Go.RowKit (Below)
/-! (*manystrand/manystrandref27.Count).Hold -/
def N29 (o1 : Option Addr) (x2 : Int) (x3 : Int) (K : Int → World → Prop) (w : World) : Prop :=
 Calls Tryz.prog 59 #[(.pointer o1), (.int .i64 x2)] w fun e6 w5 =>
 ∃ (o4 : Option Addr), e6 = .returned (.pointer o4) ∧
 (Calls Tryz.prog 59 #[(.pointer o1), (.int .i64 x3)] w5 fun e9 w8 =>
 ∃ (o7 : Option Addr), e9 = .returned (.pointer o7) ∧
 (BoolK o4.isNone
 (K 5 w8)
 (BoolK o7.isNone
 (K 5 w8)
 (∃ (J10 : World → Prop),
 (∀ (w11 : World), J10 w11 →
 ∃ (J12 : World → Prop),
 (∀ (w13 : World), J12 w13 →
 AddrK o4 fun b14 =>
 ∃ (a15 : Option Addr) (l15 : Nat) (c15 : Nat), w13.cell? (b14.add 6) = some (.slice a15 l15 c15) ∧
 (Calls Tryz.prog 69 #[(.slice a15 l15 c15), (.int .i64 x3)] w13 fun e18 w17 =>
 ∃ (p16 : Bool), e18 = .returned (.bool p16) ∧
 (BoolK (!p16)
 (AllocK w17 (#[]) 3 fun b19 w20 =>
 AddrK o4 fun b21 =>
 ∃ (a22 : Option Addr) (l22 : Nat) (c22 : Nat), w20.cell? (b21.add 6) = some (.slice a22 l22 c22) ∧
 (∃ (a23 : Option Addr), ∃ (l23 : Nat), ∃ (c23 : Nat), ∃ (w24 : World), Sem.run Tryz.prog (Builtin.append_ #[43, 43] 43 #[(.slice (some b19) 0 0), (.slice a22 l22 c22)]) w20 = .ok (.slice a23 l23 c23) w24 ∧
 (AllocK w24 (#[(.int .i64 x3)]) 3 fun b25 w26 =>
 ∃ (a27 : Option Addr), ∃ (l27 : Nat), ∃ (c27 : Nat), ∃ (w28 : World), Sem.run Tryz.prog (Builtin.append_ #[43, 43] 43 #[(.slice a23 l23 c23), (.slice (some b25) 1 1)]) w26 = .ok (.slice a27 l27 c27) w28 ∧
 (AddrK o4 fun b29 =>
 SetK w28 (b29.add 6) (.slice a27 l27 c27) fun w30 =>
 AddrK o1 fun b31 =>
 ∃ (a32 : Option Addr) (l32 : Nat) (c32 : Nat), w30.cell? (b31.add 10) = some (.slice a32 l32 c32) ∧
 (Calls Tryz.prog 70 #[(.slice a32 l32 c32), (.agg #[(.int .i64 x2), (.int .i64 x3)])] w30 fun e35 w34 =>
 ∃ (a33 : Option Addr), ∃ (l33 : Nat), ∃ (c33 : Nat), e35 = .returned (.slice a33 l33 c33) ∧
 (AddrK o1 fun b36 =>
 SetK w34 (b36.add 10) (.slice a33 l33 c33) fun w37 =>
 K 0 w37))))))
 (K 0 w17)))) ∧
 (DrewK w11 fun w38 =>
 Calls Tryz.prog 63 #[(.pointer o1), (.int .i64 x2)] w38 fun e41 w40 =>
 ∃ (s39 : ByteArray), e41 = .returned (.string s39) ∧
 (Cel w38 w40 ∧
 (BoolK (!((s39 : ByteArray).toList == ((⟨#[108, 105, 118, 101]⟩ : ByteArray) : ByteArray).toList))
 ((K 200 w40) ∧
 (K 200 w40))
 (AddrK o7 fun b42 =>
 AddrK o4 fun b43 =>
 (∃ (x44 : Int), w40.cell? b42 = some (.int .i64 x44) ∧
 (∃ (x45 : Int), w40.cell? b43 = some (.int .i64 x45) ∧
 (BoolK ((x44 : Int) == x45)
 (Calls Tryz.prog 63 #[(.pointer o1), (.int .i64 x3)] w40 fun e48 w47 =>
 ∃ (s46 : ByteArray), e48 = .returned (.string s46) ∧
 (BoolK (!((s46 : ByteArray).toList == ((⟨#[108, 105, 118, 101]⟩ : ByteArray) : ByteArray).toList))
 (K 200 w47)
 (J12 w47)))
 (J12 w40)))) ∧
 (∃ (x49 : Int), w40.cell? b43 = some (.int .i64 x49) ∧
 (∃ (x50 : Int), w40.cell? b42 = some (.int .i64 x50) ∧
 (BoolK ((x50 : Int) == x49)
 (Calls Tryz.prog 63 #[(.pointer o1), (.int .i64 x3)] w40 fun e53 w52 =>
 ∃ (s51 : ByteArray), e53 = .returned (.string s51) ∧
 (BoolK (!((s51 : ByteArray).toList == ((⟨#[108, 105, 118, 101]⟩ : ByteArray) : ByteArray).toList))
 (K 200 w52)
 (J12 w52)))
 (J12 w40))))))))) ∧
 (DrewK w8 fun w54 =>
 AddrK o7 fun b55 =>
 ∃ (x56 : Int), w54.cell? b55 = some (.int .i64 x56) ∧
 (AddrK o4 fun b57 =>
 ∃ (x58 : Int), w54.cell? b57 = some (.int .i64 x58) ∧
 (BoolK ((x56 : Int) != x58)
 (AddrK o1 fun b59 =>
 ∃ (a60 : Option Addr) (l60 : Nat) (c60 : Nat), w54.cell? (b59.add 5) = some (.slice a60 l60 c60) ∧
 (AddrK o4 fun b61 =>
 ∃ (x62 : Int), w54.cell? b61 = some (.int .i64 x62) ∧
 ((0 ≤ (x62 : Int) ∧ (x62 : Int) < (l60 : Nat)) ∧
 AddrK a60 fun b63 =>
 ∃ (a64 : Option Addr) (l64 : Nat) (c64 : Nat), w54.cell? (b63.add ((x62 : Int).toNat * 1)) = some (.slice a64 l64 c64) ∧
 ((0 ≤ (IntKind.wrap .i64 (x3 - 1) : Int) ∧ (IntKind.wrap .i64 (x3 - 1) : Int) < (l64 : Nat)) ∧
 AddrK a64 fun b65 =>
 ∃ (x66 : Int), w54.cell? (b65.add ((IntKind.wrap .i64 (x3 - 1) : Int).toNat * 1)) = some (.int .i64 x66) ∧
 (BoolK ((x66 : Int) == 0)
 (K 5 w54)
 (J10 w54))))))
 (J10 w54))))))))
def ann29 : Ann := (.two .nil (.two .nil (.two (.two .nil (.two (.two .nil .nil) .nil)) (.cut [] [0, 1, 2, 7, 8] (.two (.anyC 26 (.take 0 (.take 1 (.take 2 (.take 3 (.take 4 (.take 5 (.take 6 (.take 7 (.take 8 (.take 9 (.take 10 (.take 11 (.take 12 (.take 13 (.take 14 (.take 15 (.take 16 (.take 17 (.take 18 (.take 19 (.take 20 (.take 21 (.take 22 (.take 23 (.take 24 (.take 25 .done))))))))))))))))))))))))))) (.two (.two .nil .nil) .nil)) (.cut [] [0, 1, 2, 7] (.two (.anyC 17 (.take 0 (.take 1 (.one 2 (.take 3 (.take 4 (.take 5 (.take 6 (.take 7 (.take 9 (.take 10 (.take 11 (.both 8 (.one 12 (.take 13 (.take 14 (.take 15 (.take 16 .done))))) (.one 12 (.one 8 (.take 13 (.take 14 (.take 15 (.take 16 .done))))))))))))))))))) (.two (.two .nil .nil) .nil)) (.two (.two .nil (.two (.two .nil .nil) .nil)) (.two .nil .nil)))))))
noncomputable def code29 : Code := match Tryz.f29.body with | some c => c | none => .skip
theorem wp29 (o1 : Option Addr) (x2 : Int) (x3 : Int) (K : Int → World → Prop) (w : World) : WP Tryz.prog tab code29 ann29 (fnQ tab Tryz.f29.results.toList [(.one (.int .i64))] K) (argE 0 [(.pointer o1), (.int .i64 x2), (.int .i64 x3)]) w = N29 o1 x2 x3 K w := by kernel_rfl
theorem calls29 (o1 : Option Addr) (x2 : Int) (x3 : Int) (K : Int → World → Prop) (w : World) (h : N29 o1 x2 x3 K w) : Calls Tryz.prog 29 #[(.pointer o1), (.int .i64 x2), (.int .i64 x3)] w fun en w' => ∃ (x67 : Int), en = .returned (.int .i64 x67) ∧ K x67 w' :=
 have e : (fun en w' => ExShs [(.one (.int .i64))] fun vs => en = .returned (tupled vs) ∧ ap [(.one (.int .i64))] K vs fun p => p w') = (fun (en : Ending) (w' : World) => ∃ (x67 : Int), en = .returned (.int .i64 x67) ∧ K x67 w') := by kernel_rfl
 e ▸ fn_sound tabOk mixed Tryz.func29 (by kernel_rfl : Tryz.f29.body = some code29) ann29 [(.pointer o1), (.int .i64 x2), (.int .i64 x3)] [(.one (.int .i64))] K w (by kernel_rfl) ((wp29 o1 x2 x3 K w).symm ▸ h)
end Go.Proofs.YtgggbmikmmljcaaGreat

namespace Go.Proofs.YtgggbmikmmljcaaGreat
open Go Go.V Go.Proofs
open Go.RowKit (Below)
/-! (*manystrand/manystrandref27.Count).Loose -/
def N31 (o1 : Option Addr) (x2 : Int) (x3 : Int) (K : Int → World → Prop) (w : World) : Prop :=
 Calls Tryz.prog 59 #[(.pointer o1), (.int .i64 x2)] w fun e6 w5 =>
 ∃ (o4 : Option Addr), e6 = .returned (.pointer o4) ∧
 (BoolK o4.isNone
 (K 5 w5)
 (AddrK o4 fun b7 =>
 ∃ (a8 : Option Addr) (l8 : Nat) (c8 : Nat), w5.cell? (b7.add 6) = some (.slice a8 l8 c8) ∧
 (Calls Tryz.prog 69 #[(.slice a8 l8 c8), (.int .i64 x3)] w5 fun e11 w10 =>
 ∃ (p9 : Bool), e11 = .returned (.bool p9) ∧
 (BoolK (!p9)
 (K 5 w10)
 (∃ (I12 : Option Addr → Nat → Nat → Int → World → Prop) (μ13 : Option Addr → Nat → Nat → Int → World → Nat),
 (I12 none 0 0 0 w10 ∧ True) ∧
 ∀ (w14 : World) (a15 : Option Addr) (l15 : Nat) (c15 : Nat) (x16 : Int), I12 a15 l15 c15 x16 w14 →
 AddrK o4 fun b17 =>
 ∃ (a18 : Option Addr) (l18 : Nat) (c18 : Nat), w14.cell? (b17.add 6) = some (.slice a18 l18 c18) ∧
 (BoolK (decide ((x16 : Int) < (l18 : Nat)))
 (AddrK o4 fun b19 =>
 ∃ (a20 : Option Addr) (l20 : Nat) (c20 : Nat), w14.cell? (b19.add 6) = some (.slice a20 l20 c20) ∧
 ((0 ≤ (x16 : Int) ∧ (x16 : Int) < (l20 : Nat)) ∧
 AddrK a20 fun b21 =>
 ∃ (x22 : Int), w14.cell? (b21.add ((x16 : Int).toNat * 1)) = some (.int .i64 x22) ∧
 (BoolK ((x22 : Int) != x3)
 (AddrK o4 fun b23 =>
 ∃ (a24 : Option Addr) (l24 : Nat) (c24 : Nat), w14.cell? (b23.add 6) = some (.slice a24 l24 c24) ∧
 ((0 ≤ (x16 : Int) ∧ (x16 : Int) < (l24 : Nat)) ∧
 AddrK a24 fun b25 =>
 ∃ (x26 : Int), w14.cell? (b25.add ((x16 : Int).toNat * 1)) = some (.int .i64 x26) ∧
 (AllocK w14 (#[(.int .i64 x26)]) 3 fun b27 w28 =>
 ∃ (a29 : Option Addr), ∃ (l29 : Nat), ∃ (c29 : Nat), ∃ (w30 : World), Sem.run Tryz.prog (Builtin.append_ #[43, 43] 43 #[(.slice a15 l15 c15), (.slice (some b27) 1 1)]) w28 = .ok (.slice a29 l29 c29) w30 ∧
 (I12 a29 l29 c29 (IntKind.wrap .i64 (x16 + 1)) w30 ∧ μ13 a29 l29 c29 (IntKind.wrap .i64 (x16 + 1)) w30 < μ13 a15 l15 c15 x16 w14))))
 (I12 a15 l15 c15 (IntKind.wrap .i64 (x16 + 1)) w14 ∧ μ13 a15 l15 c15 (IntKind.wrap .i64 (x16 + 1)) w14 < μ13 a15 l15 c15 x16 w14))))
 (AddrK o4 fun b31 =>
 SetK w14 (b31.add 6) (.slice a15 l15 c15) fun w32 =>
 K 0 w32)))))))
def ann31 : Ann := (.two .nil (.two .nil (.two (.two .nil (.two (.two .nil .nil) .nil)) (.two .nil (.two (.two .nil (.one (.loop [(8, (.one .slice)), (9, (.one (.int .i64)))] [2, 7] (.two (.two .nil (.two .nil .nil)) (.two (.one (.two .nil (.two .nil .nil))) .nil))))) (.two .nil (.two .nil .nil)))))))
noncomputable def code31 : Code := match Tryz.f31.body with | some c => c | none => .skip
theorem wp31 (o1 : Option Addr) (x2 : Int) (x3 : Int) (K : Int → World → Prop) (w : World) : WP Tryz.prog tab code31 ann31 (fnQ tab Tryz.f31.results.toList [(.one (.int .i64))] K) (argE 0 [(.pointer o1), (.int .i64 x2), (.int .i64 x3)]) w = N31 o1 x2 x3 K w := by kernel_rfl
theorem calls31 (o1 : Option Addr) (x2 : Int) (x3 : Int) (K : Int → World → Prop) (w : World) (h : N31 o1 x2 x3 K w) : Calls Tryz.prog 31 #[(.pointer o1), (.int .i64 x2), (.int .i64 x3)] w fun en w' => ∃ (x33 : Int), en = .returned (.int .i64 x33) ∧ K x33 w' :=
 have e : (fun en w' => ExShs [(.one (.int .i64))] fun vs => en = .returned (tupled vs) ∧ ap [(.one (.int .i64))] K vs fun p => p w') = (fun (en : Ending) (w' : World) => ∃ (x33 : Int), en = .returned (.int .i64 x33) ∧ K x33 w') := by kernel_rfl
 e ▸ fn_sound tabOk mixed Tryz.func31 (by kernel_rfl : Tryz.f31.body = some code31) ann31 [(.pointer o1), (.int .i64 x2), (.int .i64 x3)] [(.one (.int .i64))] K w (by kernel_rfl) ((wp31 o1 x2 x3 K w).symm ▸ h)
end Go.Proofs.YtgggbmikmmljcaaGreat

namespace Go.Proofs.YtgggbmikmmljcaaGreat
open Go Go.V Go.Proofs
open Go.RowKit (Below)
/-! (*manystrand/manystrandref27.Count).Tick -/
def N36 (o1 : Option Addr) (x2 : Int) (K : Int → World → Prop) (w : World) : Prop :=
 Calls Tryz.prog 58 #[(.pointer o1), (.int .i64 x2)] w fun e5 w4 =>
 ∃ (p3 : Bool), e5 = .returned (.bool p3) ∧
 (BoolK (!p3)
 (K 2 w4)
 (AddrK o1 fun b6 =>
 ∃ (a7 : Option Addr) (l7 : Nat) (c7 : Nat), w4.cell? (b6.add 3) = some (.slice a7 l7 c7) ∧
 ((0 ≤ (x2 : Int) ∧ (x2 : Int) < (l7 : Nat)) ∧
 AddrK a7 fun b8 =>
 ∃ (x9 : Int), w4.cell? (b8.add ((x2 : Int).toNat * 1)) = some (.int .i64 x9) ∧
 ((0 ≤ (x2 : Int) ∧ (x2 : Int) < (l7 : Nat)) ∧
 AddrK a7 fun b10 =>
 SetK w4 (b10.add ((x2 : Int).toNat * 1)) (.int .i64 (IntKind.wrap .i64 (x9 + 1))) fun w11 =>
 ∃ (I12 : Int → World → Prop) (μ13 : Int → World → Nat),
 (I12 0 w11 ∧ True) ∧
 ∀ (w14 : World) (x15 : Int), I12 x15 w14 →
 AddrK o1 fun b16 =>
 ∃ (a17 : Option Addr) (l17 : Nat) (c17 : Nat), w14.cell? (b16.add 4) = some (.slice a17 l17 c17) ∧
 (BoolK (decide ((x15 : Int) < (l17 : Nat)))
 (AddrK o1 fun b18 =>
 ∃ (a19 : Option Addr) (l19 : Nat) (c19 : Nat), w14.cell? (b18.add 5) = some (.slice a19 l19 c19) ∧
 ((0 ≤ (x2 : Int) ∧ (x2 : Int) < (l19 : Nat)) ∧
 AddrK a19 fun b20 =>
 ∃ (a21 : Option Addr) (l21 : Nat) (c21 : Nat), w14.cell? (b20.add ((x2 : Int).toNat * 1)) = some (.slice a21 l21 c21) ∧
 ((0 ≤ (x15 : Int) ∧ (x15 : Int) < (l21 : Nat)) ∧
 AddrK a21 fun b22 =>
 ∃ (x23 : Int), w14.cell? (b22.add ((x15 : Int).toNat * 1)) = some (.int .i64 x23) ∧
 (BoolK (decide ((x23 : Int) > 0))
 (AddrK o1 fun b24 =>
 ∃ (a25 : Option Addr) (l25 : Nat) (c25 : Nat), w14.cell? (b24.add 4) = some (.slice a25 l25 c25) ∧
 ((0 ≤ (x15 : Int) ∧ (x15 : Int) < (l25 : Nat)) ∧
 AddrK a25 fun b26 =>
 ∃ (x27 : Int), w14.cell? (b26.add ((x15 : Int).toNat * 7)) = some (.int .i64 x27) ∧
 (Calls Tryz.prog 60 #[(.pointer o1), (.int .i64 x2), (.int .i64 x27), (.string (⟨#[114, 101, 110, 101, 119]⟩ : ByteArray)), (.int .i64 (IntKind.wrap .i64 (x15 + 1))), (.int .i64 0)] w14 fun e29 w28 =>
 e29 = .returned (.tuple #[]) ∧
 (I12 (IntKind.wrap .i64 (x15 + 1)) w28 ∧ μ13 (IntKind.wrap .i64 (x15 + 1)) w28 < μ13 x15 w14))))
 (I12 (IntKind.wrap .i64 (x15 + 1)) w14 ∧ μ13 (IntKind.wrap .i64 (x15 + 1)) w14 < μ13 x15 w14)))))
 (∃ (I30 : Int → World → Prop) (μ31 : Int → World → Nat),
 (I30 0 w14 ∧ True) ∧
 ∀ (w32 : World) (x33 : Int), I30 x33 w32 →
 AddrK o1 fun b34 =>
 ∃ (a35 : Option Addr) (l35 : Nat) (c35 : Nat), w32.cell? (b34.add 4) = some (.slice a35 l35 c35) ∧
 (BoolK (decide ((x33 : Int) < (l35 : Nat)))
 (AddrK o1 fun b36 =>
 ∃ (a37 : Option Addr) (l37 : Nat) (c37 : Nat), w32.cell? (b36.add 4) = some (.slice a37 l37 c37) ∧
 ((0 ≤ (x33 : Int) ∧ (x33 : Int) < (l37 : Nat)) ∧
 AddrK a37 fun b38 =>
 DrewK w32 fun w39 =>
 ∃ (x40 : Int), w39.cell? (b38.add ((x33 : Int).toNat * 7)) = some (.int .i64 x40) ∧
 (BoolK ((x40 : Int) == x2)
 (∃ (x41 : Int), w39.cell? ((b38.add ((x33 : Int).toNat * 7)).add 1) = some (.int .i64 x41) ∧
 (BoolK (decide ((x41 : Int) > 0))
 (AddrK o1 fun b42 =>
 ∃ (a43 : Option Addr) (l43 : Nat) (c43 : Nat), w39.cell? (b42.add 3) = some (.slice a43 l43 c43) ∧
 ((0 ≤ (x2 : Int) ∧ (x2 : Int) < (l43 : Nat)) ∧
 AddrK a43 fun b44 =>
 ∃ (x45 : Int), w39.cell? (b44.add ((x2 : Int).toNat * 1)) = some (.int .i64 x45) ∧
 (∃ (x46 : Int), w39.cell? ((b38.add ((x33 : Int).toNat * 7)).add 2) = some (.int .i64 x46) ∧
 (AddrK o1 fun b47 =>
 ∃ (x48 : Int), w39.cell? (b47.add 1) = some (.int .i64 x48) ∧
 (AddrK o1 fun b49 =>
 ∃ (x50 : Int), w39.cell? (b49.add 2) = some (.int .i64 x50) ∧
 (BoolK (decide ((IntKind.wrap .i64 (x45 - x46) : Int) ≥ IntKind.wrap .i64 (x48 + x50)))
 (SetK w39 ((b38.add ((x33 : Int).toNat * 7)).add 4) (.bool true) fun w51 =>
 I30 (IntKind.wrap .i64 (x33 + 1)) w51 ∧ μ31 (IntKind.wrap .i64 (x33 + 1)) w51 < μ31 x33 w32)
 (I30 (IntKind.wrap .i64 (x33 + 1)) w39 ∧ μ31 (IntKind.wrap .i64 (x33 + 1)) w39 < μ31 x33 w32)))))))
 (I30 (IntKind.wrap .i64 (x33 + 1)) w39 ∧ μ31 (IntKind.wrap .i64 (x33 + 1)) w39 < μ31 x33 w32)))
 (I30 (IntKind.wrap .i64 (x33 + 1)) w39 ∧ μ31 (IntKind.wrap .i64 (x33 + 1)) w39 < μ31 x33 w32))))
 (K 0 w32))))))))
def ann36 : Ann := (.two .nil (.two (.two .nil (.two (.two .nil .nil) .nil)) (.two .nil (.two (.two .nil (.one (.loop [(5, (.one (.int .i64)))] [0, 1] (.two (.two .nil (.two .nil .nil)) (.two (.one (.two .nil (.two .nil .nil))) .nil))))) (.two (.two .nil (.one (.loop [(6, (.one (.int .i64)))] [0, 1] (.two (.two .nil (.two .nil .nil)) (.two (.one (.two .nil (.two (.anyC 37 (.take 0 (.take 1 (.take 2 (.take 3 (.take 4 (.take 5 (.take 6 (.take 7 (.take 8 (.take 9 (.take 10 (.take 11 (.take 12 (.take 13 (.take 14 (.take 15 (.take 16 (.take 17 (.take 18 (.take 19 (.take 20 (.take 21 (.take 22 (.take 23 (.take 24 (.take 25 (.take 26 (.take 27 (.take 28 (.take 29 (.take 30 (.take 31 (.take 32 (.take 33 (.take 34 (.take 35 (.take 36 .done)))))))))))))))))))))))))))))))))))))) (.two .nil .nil)))) .nil))))) (.two .nil .nil))))))
noncomputable def code36 : Code := match Tryz.f36.body with | some c => c | none => .skip
theorem wp36 (o1 : Option Addr) (x2 : Int) (K : Int → World → Prop) (w : World) : WP Tryz.prog tab code36 ann36 (fnQ tab Tryz.f36.results.toList [(.one (.int .i64))] K) (argE 0 [(.pointer o1), (.int .i64 x2)]) w = N36 o1 x2 K w := by kernel_rfl
theorem calls36 (o1 : Option Addr) (x2 : Int) (K : Int → World → Prop) (w : World) (h : N36 o1 x2 K w) : Calls Tryz.prog 36 #[(.pointer o1), (.int .i64 x2)] w fun en w' => ∃ (x52 : Int), en = .returned (.int .i64 x52) ∧ K x52 w' :=
 have e : (fun en w' => ExShs [(.one (.int .i64))] fun vs => en = .returned (tupled vs) ∧ ap [(.one (.int .i64))] K vs fun p => p w') = (fun (en : Ending) (w' : World) => ∃ (x52 : Int), en = .returned (.int .i64 x52) ∧ K x52 w') := by kernel_rfl
 e ▸ fn_sound tabOk mixed Tryz.func36 (by kernel_rfl : Tryz.f36.body = some code36) ann36 [(.pointer o1), (.int .i64 x2)] [(.one (.int .i64))] K w (by kernel_rfl) ((wp36 o1 x2 K w).symm ▸ h)
end Go.Proofs.YtgggbmikmmljcaaGreat

namespace Go.Proofs.YtgggbmikmmljcaaGreat
open Go Go.V Go.Proofs
open Go.RowKit (Below)
section
variable {κ κ' κ1 κ2 κ3 : Ka RK} {N N' : Prm} {r : Rb} {w w' w2 w0 : World}
def Prm.addP (N : Prm) : Prm := { N with p := N.p + 1, f := N.f + 1 }
def Prm.addH (N : Prm) : Prm := { N with h := N.h + 1, o := N.o + 1 }
theorem Prm.le_addP (N : Prm) : N.Le N.addP := ⟨rfl, rfl, Nat.le_succ _, Nat.le_refl _, Nat.le_refl _, Nat.le_succ _⟩
theorem Prm.le_addFP (N : Prm) : (N.addF 1).Le N.addP := ⟨rfl, rfl, Nat.le_succ _, Nat.le_refl _, Nat.le_refl _, Nat.le_refl _⟩
def Prm.addH1 (N : Prm) : Prm := { N with h := N.h + 1 }
theorem Prm.le_addH1 (N : Prm) : N.Le N.addH1 := ⟨rfl, rfl, Nat.le_refl _, Nat.le_refl _, Nat.le_succ _, Nat.le_refl _⟩
theorem Prm.le_addH2 (N : Prm) : N.addH1.Le N.addH := ⟨rfl, rfl, Nat.le_refl _, Nat.le_succ _, Nat.le_refl _, Nat.le_refl _⟩
theorem Prm.le_addH (N : Prm) : N.Le N.addH := ⟨rfl, rfl, Nat.le_refl _, Nat.le_succ _, Nat.le_succ _, Nat.le_refl _⟩
theorem c26 (h : RR κ N r w) (x y z : Int) (hp : N.p + 1 ≤ 1000) (hf : N.f + 1 ≤ 10000000) :
    Calls Tryz.prog 26 #[rp r, .int .i64 x, .int .i64 y, .int .i64 z] w fun en w' => ∃ e, en = .returned (.int .i64 e) ∧ PostR κ N.addP r w w' := by
  refine calls26 _ _ _ _ (fun _ w' => PostR κ N.addP r w w') w ?_
  have lim : N.addP.p ≤ 1000 ∧ N.addP.o ≤ 1000 ∧ N.addP.h ≤ 1000 ∧ N.addP.f ≤ 10000000 := ⟨hp, h.ln.2.2.1, h.ln.2.2.2.1, hf⟩
  have done : ∀ {κ1 : Ka RK} {w1 : World}, RR κ1 N r w1 → PkR κ κ1 w w1 → PostR κ N.addP r w w1 := fun h1 p1 => PostR.mk (h1.grow N.le_addP lim) p1
  have done1 : ∀ {κ1 : Ka RK} {w1 w2 : World}, PkR κ κ1 w w1 → PostR κ1 (N.addF 1) r w1 w2 → PostR κ N.addP r w w2 := fun p1 q => (q.trans p1).grow N.le_addFP lim
  have same : ∀ w1, w = w1 → PostR κ N.addP r w w1 := by rintro _ rfl; exact done h (Pk.refl _ _ _)
  refine (c59 h z).mono ?_
  rintro en w6 ⟨o, rfl, rfl, ho⟩
  refine ⟨_, rfl, (c58 h x).mono ?_⟩
  rintro en w9 ⟨p, rfl, hpx, rfl⟩
  refine ⟨_, rfl, BoolK.mk (fun _ => same _ rfl) (fun tx => ?_)⟩
  refine (c58 h y).mono ?_
  rintro en w12 ⟨p, rfl, hpy, rfl⟩
  refine ⟨_, rfl, BoolK.mk (fun _ => same _ rfl) (fun ty => ?_)⟩
  have hx : N.isS x := by rw [hpx] at tx; simpa using tx
  have hy : N.isS y := by rw [hpy] at ty; simpa using ty
  have State : ∀ {F : World → Prop}, (∀ w', RR κ N r w' → PkR κ κ w12 w' → F w') → Calls Tryz.prog 63 #[rp r, .int .i64 z] w12 fun en w' => ∃ s, en = .returned (.string s) ∧ F w' := fun f =>
    (c63 h z).mono fun en w' ⟨s, e, hx⟩ => ⟨s, e, f w' (h.ext hx) (h.pkExt hx)⟩
  refine ⟨fun w' => RR κ N r w' ∧ PkR κ κ w12 w', ?_, ?_⟩
  rotate_left
  · -- is its owner's thing live?
    refine BoolK.mk (fun t => ?_) (fun _ => ⟨h, Pk.refl _ _ _⟩)
    rcases ho with ⟨_, rfl⟩ | ⟨hT, g, q, m, u, rfl, hk, hu⟩
    · cases t
    obtain ⟨_, c0, y0, rfl, hS0⟩ := ThP.cell hk hu h (j := 0) (by omega)
    refine ⟨y0, c0, BoolK.mk (fun _ => ?_) (fun _ => ⟨h, Pk.refl _ _ _⟩)⟩
    refine (c63 h z).mono fun en w' ⟨s, e, hx⟩ => ⟨s, e, BoolK.mk (fun _ => done (h.ext hx) (h.pkExt hx)) (fun _ => ⟨h.ext hx, h.pkExt hx⟩)⟩
  rintro w15 ⟨h15, p15⟩
  refine ⟨fun w' => w15 = w' ∧ (o.isNone = false), ?_, ?_⟩
  rotate_left
  · refine BoolK.mk (fun _ => done h15 p15) (fun t => ?_)
    rcases ho with ⟨_, rfl⟩ | ⟨hT, g, q, m, u, rfl, hk, hu⟩
    · cases t
    obtain ⟨_, c0, y0, rfl, hS0⟩ := ThP.cell hk hu h15 (j := 0) (by omega)
    refine ⟨y0, c0, BoolK.mk (fun _ => ?_) (fun _ => ⟨rfl, rfl⟩)⟩
    exact h15.rdW hx hT fun v => BoolK.mk (fun _ => done h15 p15) (fun _ => ⟨rfl, rfl⟩)
  rintro _ ⟨rfl, ton⟩
  refine BoolK.mk (fun _ => done h15 p15) (fun _ => ?_)
  rcases ho with ⟨_, rfl⟩ | ⟨hT, g, q, m, u, rfl, hk, hu⟩
  · cases ton
  obtain ⟨_, c0, y0, rfl, hS0⟩ := ThP.cell hk hu h15 (j := 0) (by omega)
  refine ⟨y0, c0, BoolK.mk (fun _ => ?_) (fun _ => ?_)⟩
  · -- the owner passes
    refine h15.drew fun w20 h20 hx20 p20 => ?_
    obtain ⟨_, d1, y1, rfl⟩ := ThP.cell hk hu h20 (j := 1) (by omega)
    obtain ⟨a3, c3, hc3, hs3⟩ := h20.c3
    obtain ⟨g3, o3, y3, rfl, hy3⟩ := clkAt h20 hs3 hx
    refine ⟨y1, by rw [add_mk]; exact d1, _, _, _, hc3, hx, y3, hy3, ?_⟩
    show SetK w20 ((⟨g, q * 7, none⟩ : Addr).add 1) _ _
    rw [add_mk]
    refine ThP.set hk hu h20 (j := 1) (by omega) ⟨_, rfl⟩ fun w28 h28 p28 => ?_
    show SetK w28 ((⟨g, q * 7, none⟩ : Addr).add 2) _ _
    rw [add_mk]
    refine ThP.set hk hu h28 (j := 2) (by omega) ⟨_, rfl⟩ fun w30 h30 p30 => ?_
    refine (c60 h30 _ _ hx hy hT hf).mono ?_
    rintro en w31 ⟨rfl, q⟩
    exact ⟨rfl, done1 (((p15.trans p20).trans p28).trans p30) q⟩
  · refine h15.rdW hx hT fun v => BoolK.mk (fun _ => ?_) (fun _ => ?_)
    · refine (c64 h15 hx hy hT hf).mono ?_
      rintro en w39 ⟨rfl, q⟩
      exact ⟨rfl, done1 p15 q⟩
    · refine ⟨fun w' => ∃ κ2 d, d ≤ 1 ∧ RR κ2 (N.addF d) r w' ∧ PkR κ κ2 w12 w', ?_, ?_⟩
      · rintro w42 ⟨κ2, d, hd, h42, p42⟩
        obtain ⟨a9, l9, c9, hc9, hs9, hl9⟩ := h42.c9
        have hl9 : l9 ≤ N.p := hl9
        refine ⟨_, _, _, hc9, h42.pushP hs9 (by omega) hx hy hT fun a' c' w2 κ3 h3 hs3 p3 => ?_⟩
        have hL : (N.addF d).Le N.addP := ⟨rfl, rfl, Nat.le_succ _, Nat.le_refl _, Nat.le_refl _, by show N.f + d ≤ N.f + 1; omega⟩
        have h3' := h3.grow hL lim
        exact h3'.setSt (i := 9) (by omega) ⟨_, _, _, rfl, hs3, by show l9 + 1 ≤ N.p + 1; omega⟩ fun w50 h50 p50 => PostR.mk h50 ((p42.trans p3).trans p50)
      · refine (c65 h15 x z).mono ?_
        rintro en w52 ⟨p51, rfl, rfl⟩
        refine ⟨_, rfl, BoolK.mk (fun _ => ?_) (fun _ => ⟨κ, 0, by omega, h15, p15⟩)⟩
        refine ⟨y0, c0, (c60 h15 _ _ hx hS0 hT hf).mono ?_⟩
        rintro en w56 ⟨rfl, κ2, h56, p56⟩
        exact ⟨rfl, κ2, 1, by omega, h56, p15.trans p56⟩
theorem c29 (h : RR κ N r w) (x y : Int) (hh : N.h + 1 ≤ 1000) (ho : N.o + 1 ≤ 1000) :
    Calls Tryz.prog 29 #[rp r, .int .i64 x, .int .i64 y] w fun en w' => ∃ e, en = .returned (.int .i64 e) ∧ PostR κ N.addH r w w' := by
  refine calls29 _ _ _ (fun _ w' => PostR κ N.addH r w w') w ?_
  have lim : N.addH.p ≤ 1000 ∧ N.addH.o ≤ 1000 ∧ N.addH.h ≤ 1000 ∧ N.addH.f ≤ 10000000 := ⟨h.ln.2.1, ho, hh, h.ln.2.2.2.2⟩
  have done : ∀ {κ1 : Ka RK} {w1 : World}, RR κ1 N r w1 → PkR κ κ1 w w1 → PostR κ N.addH r w w1 := fun h1 p1 => PostR.mk (h1.grow N.le_addH lim) p1
  have same : ∀ w1, w = w1 → PostR κ N.addH r w w1 := by rintro _ rfl; exact done h (Pk.refl _ _ _)
  refine (c59 h x).mono ?_
  rintro en w6 ⟨o4, rfl, rfl, ho4⟩
  refine ⟨_, rfl, (c59 h y).mono ?_⟩
  rintro en w6 ⟨o7, rfl, rfl, ho7⟩
  refine ⟨_, rfl, BoolK.mk (fun _ => same _ rfl) (fun t4 => BoolK.mk (fun _ => same _ rfl) (fun t7 => ?_))⟩
  rcases ho4 with ⟨_, rfl⟩ | ⟨hx, g, q, m, u, rfl, hk, hu⟩
  · cases t4
  rcases ho7 with ⟨_, rfl⟩ | ⟨hy, g2, q2, m2, u2, rfl, hk2, hu2⟩
  · cases t7
  refine ⟨fun w' => RR κ N r w' ∧ PkR κ κ w6 w', ?_, ?_⟩
  rotate_left
  · refine h.drew fun w54 h54 hx54 p54 => ?_
    obtain ⟨_, c0, y0, rfl, hS0⟩ := ThP.cell hk hu h54 (j := 0) (by omega)
    obtain ⟨_, c1, y1, rfl, hS1⟩ := ThP.cell hk2 hu2 h54 (j := 0) (by omega)
    refine ⟨y1, c1, y0, c0, BoolK.mk (fun _ => ?_) (fun _ => ⟨h54, p54⟩)⟩
    obtain ⟨a, l, c, g', o', n', u', v, e1, e2, rfl, hk', hu', hc⟩ := h54.elW hS0 hy
    refine ⟨_, _, _, h54.c5, y0, c0, hS0, _, l, c, e1, e2, v, hc, BoolK.mk (fun _ => done h54 p54) (fun _ => ⟨h54, p54⟩)⟩
  rintro w11 ⟨h11, p11⟩
  refine ⟨fun w' => RR κ N r w' ∧ PkR κ κ w6 w', ?_, ?_⟩
  rotate_left
  · refine h11.drew fun w38 h38 hx38 p38 => ?_
    refine (c63 h38 x).mono ?_
    rintro en w40 ⟨s39, rfl, hx40⟩
    have h40 := h38.ext hx40
    have p40 := (p11.trans p38).trans (h38.pkExt hx40)
    refine ⟨_, rfl, Below.cel hx40, BoolK.mk (fun _ => ⟨done h40 p40, done h40 p40⟩) (fun _ => ?_)⟩
    obtain ⟨_, c0, y0, rfl, hS0⟩ := ThP.cell hk hu h40 (j := 0) (by omega)
    obtain ⟨_, c1, y1, rfl, hS1⟩ := ThP.cell hk2 hu2 h40 (j := 0) (by omega)
    have st : ∀ b : Bool, BoolK b (Calls Tryz.prog 63 #[rp r, .int .i64 y] w40 fun e48 w47 => ∃ (s46 : ByteArray), e48 = .returned (.string s46) ∧ (BoolK (!((s46 : ByteArray).toList == ((⟨#[108, 105, 118, 101]⟩ : ByteArray) : ByteArray).toList)) (PostR κ N.addH r w6 w47) (RR κ N r w47 ∧ PkR κ κ w6 w47))) (RR κ N r w40 ∧ PkR κ κ w6 w40) := fun b =>
      BoolK.mk (fun _ => (c63 h40 y).mono fun en w' ⟨s, e, hx⟩ => ⟨s, e, BoolK.mk (fun _ => done (h40.ext hx) (p40.trans (h40.pkExt hx))) (fun _ => ⟨h40.ext hx, p40.trans (h40.pkExt hx)⟩)⟩) (fun _ => ⟨h40, p40⟩)
    exact ⟨⟨y1, c1, y0, c0, st _⟩, ⟨y0, c0, y1, c1, st _⟩⟩
  rintro w13 ⟨h13, p13⟩
  obtain ⟨_, c6, a, l, c, rfl, hs, hl⟩ := ThP.cell hk hu h13 (j := 6) (by omega)
  refine ⟨_, _, _, by rw [add_mk]; exact c6, (c69 h13 hs (.inl rfl) (by have := h.ln.2.2.2.1; omega) y).mono ?_⟩
  rintro en w17 ⟨p16, rfl, rfl⟩
  refine ⟨_, rfl, BoolK.mk (fun _ => ?_) (fun _ => done h13 p13)⟩
  refine AllocK.mk fun b w20 hb hB hx20 => ?_
  have h20 := h13.ext hx20
  obtain ⟨_, c6, a, l, c, rfl, hs, hl⟩ := ThP.cell hk hu h20 (j := 6) (by omega)
  obtain ⟨a23, c23, w24, κ1, q1, z2, z3, z4, z5⟩ := Sl.copy (ty := 43) (okR N r) rsltX h13.ty hx20 hB (by omega) hs (by omega)
  have h24 : RR κ1 N r w24 := h13.same (z5 NT) z2
  refine ⟨_, _, _, by rw [add_mk]; exact c6, a23, l, c23, w24, q1, ?_⟩
  refine (h24.grow N.le_addH1 ⟨h.ln.2.1, h.ln.2.2.1, hh, h.ln.2.2.2.2⟩).pushX (k := .idx) (.inl rfl) z3 (by have := h.ln.2.2.2.1; omega) (x := y) hy fun a27 c27 w28 κ2 h28 s28 p28 => ?_
  have P28 : PkR κ κ2 w6 w28 := (p13.trans (z5 NT)).trans (p28.mono ntX)
  obtain ⟨u', hu', hk'⟩ := P28.le _ _ _ _ hk
  show SetK w28 ((⟨g, q * 7, none⟩ : Addr).add 6) _ _
  rw [add_mk]
  refine ThP.set hk' (Nat.le_trans hu hu') h28 (j := 6) (by omega) ⟨_, _, _, rfl, s28, by show l + 1 ≤ N.h + 1; omega⟩ fun w30 h30 p30 => ?_
  obtain ⟨a32, l32, c32, hc32, hs32, hl32⟩ := h30.c10
  have hl32 : l32 ≤ N.o := hl32
  refine ⟨_, _, _, hc32, (c70 h30 hs32 (by omega) hx hy).mono ?_⟩
  rintro en w34 ⟨a33, l33, c33, rfl, κ3, h34, p34, s33, hl33⟩
  refine ⟨_, _, _, rfl, ?_⟩
  exact (h34.grow N.le_addH2 lim).setSt (i := 10) (by omega) ⟨_, _, _, rfl, s33, by show l33 ≤ N.o + 1; omega⟩ fun w37 h37 p37 => PostR.mk h37 (((P28.trans p30).trans p34).trans p37)
theorem c31 (h : RR κ N r w) (x y : Int) :
    Calls Tryz.prog 31 #[rp r, .int .i64 x, .int .i64 y] w fun en w' => ∃ e, en = .returned (.int .i64 e) ∧ PostR κ N r w w' := by
  refine calls31 _ _ _ (fun _ w' => PostR κ N r w w') w ?_
  have hh := h.ln.2.2.2.1
  have same : ∀ w1, w = w1 → PostR κ N r w w1 := by rintro _ rfl; exact PostR.mk h (Pk.refl _ _ _)
  refine (c59 h x).mono ?_
  rintro en w5 ⟨o4, rfl, rfl, ho4⟩
  refine ⟨_, rfl, BoolK.mk (fun _ => same _ rfl) (fun t4 => ?_)⟩
  rcases ho4 with ⟨_, rfl⟩ | ⟨hx, g, q, m, u, rfl, hk, hu⟩
  · cases t4
  obtain ⟨_, c6, a, l, c, rfl, hs, hl⟩ := ThP.cell hk hu h (j := 6) (by omega)
  refine ⟨_, _, _, by rw [add_mk]; exact c6, (c69 h hs (.inl rfl) (by omega) y).mono ?_⟩
  rintro en w17 ⟨p16, rfl, rfl⟩
  refine ⟨_, rfl, BoolK.mk (fun _ => same _ rfl) (fun _ => ?_)⟩
  refine ⟨fun a l c i w' => ∃ (κ' : Ka RK) (k : Nat), i = k ∧ k ≤ N.h ∧ l ≤ k ∧ RR κ' N r w' ∧ PkR κ κ' w17 w' ∧ Sl Kr κ' .idx (a, l, c), fun _ _ _ i _ => N.h - i.toNat, ⟨⟨κ, 0, rfl, Nat.zero_le _, Nat.le_refl _, h, Pk.refl _ _ _, Sl.nil _ _ _⟩, trivial⟩, ?_⟩
  rintro w14 a1 l1 c1 _ ⟨κ1, k, rfl, hkh, hl1, h14, p14, s14⟩
  obtain ⟨u', hu', hk'⟩ := p14.le _ _ _ _ hk
  obtain ⟨_, c6, a, l, c, rfl, hs, hl⟩ := ThP.cell hk' (Nat.le_trans hu hu') h14 (j := 6) (by omega)
  have c6' : w14.cell? ((⟨g, q * 7, none⟩ : Addr).add 6) = some (.slice a l c) := by rw [add_mk]; exact c6
  refine ⟨_, _, _, c6', BoolK.mk (fun t => ?_) (fun t => ?_)⟩
  · have t := of_decide_eq_true t
    obtain ⟨g1, o1, n1, u1, v1, rfl, _, _, hc1, y1, rfl, hy1, hy2⟩ := h14.el hs rfl (x := k) (by omega) t
    rw [wrap_succ (by omega)]
    refine ⟨_, _, _, c6', ⟨by omega, t⟩, y1, hc1, BoolK.mk (fun _ => ?_) (fun _ => ?_)⟩
    · refine ⟨_, _, _, c6', ⟨by omega, t⟩, y1, hc1, h14.pushX (k := .idx) (.inl rfl) s14 (by omega) (x := y1) ⟨hy1, hy2⟩ fun a27 c27 w28 κ2 h28 s28 p28 => ?_⟩
      exact ⟨⟨κ2, k + 1, rfl, by omega, by omega, h28, p14.trans (p28.mono ntX), s28⟩, by simp; omega⟩
    · exact ⟨⟨κ1, k + 1, rfl, by omega, by omega, h14, p14, s14⟩, by simp; omega⟩
  · show SetK w14 ((⟨g, q * 7, none⟩ : Addr).add 6) _ _
    rw [add_mk]
    exact ThP.set hk' (Nat.le_trans hu hu') h14 (j := 6) (by omega) ⟨_, _, _, rfl, s14, by omega⟩ fun w30 h30 p30 => PostR.mk h30 (p14.trans p30)
theorem c36 (h : RR κ N r w) (x : Int) (hf : N.f + N.n ≤ 10000000) :
    Calls Tryz.prog 36 #[rp r, .int .i64 x] w fun en w' => ∃ e, en = .returned (.int .i64 e) ∧ PostR κ (N.addF N.n) r w w' := by
  refine calls36 _ _ (fun _ w' => PostR κ (N.addF N.n) r w w') w ?_
  have ln := h.ln.1
  refine (c58 h x).mono ?_
  rintro en w4 ⟨p, rfl, hp, rfl⟩
  refine ⟨_, rfl, BoolK.mk (fun _ => PostR.mk (h.grow (N.le_addF _) (h.lim hf)) (Pk.refl _ _ _)) (fun t => ?_)⟩
  have hS : N.isS x := by rw [hp] at t; simpa using t
  obtain ⟨a3, c3, hc3, hs3⟩ := h.c3
  obtain ⟨g3, o3, n3, u3, v3, rfl, hk3, hu3, hc3', y3, rfl⟩ := h.el hs3 rfl hS.1 hS.2
  refine ⟨_, _, _, hc3, hS, y3, hc3', hS, ?_⟩
  show SetK w4 ((⟨g3, o3, none⟩ : Addr).add (x.toNat * 1)) _ _
  rw [add_mk]
  refine h.setAt hk3 (i := o3 + x.toNat * 1) (by omega) (by simp [NT]) (by rw [show (o3 + x.toNat * 1) % Kr.sz .clk = 0 from Nat.mod_one _]; exact ⟨_, rfl⟩) fun w11 h11 p11 _ => ?_
  refine ⟨fun i w' => ∃ (κ' : Ka RK) (k d : Nat), i = k ∧ k ≤ N.n ∧ d ≤ k ∧ RR κ' (N.addF d) r w' ∧ PkR κ κ' w4 w', fun i _ => N.n - i.toNat, ⟨⟨κ, 0, 0, rfl, Nat.zero_le _, Nat.le_refl _, h11, p11⟩, trivial⟩, ?_⟩
  rintro w14 _ ⟨κ1, k, d, rfl, hk, hd, h14, p14⟩
  obtain ⟨a4, c4, hc4, hs4⟩ := h14.c4
  refine ⟨_, _, _, hc4, BoolK.mk (fun t => ?_) (fun t => ?_)⟩
  · have t := of_decide_eq_true t
    have t : (k : Int) < N.n := t
    have e : IntKind.wrap .i64 ((k : Int) + 1) = ((k + 1 : Nat) : Int) := wrap_succ (by omega)
    rw [e]
    obtain ⟨a, l, c, h1, h2, h3, _⟩ := h14.tw.at_ (x := x) hS.1 hS.2
    have h3 : N.n ≤ l := h3
    refine ⟨_, _, _, h14.c5, hS, a, l, c, h1, ⟨by omega, by omega⟩, h14.getI h2 (by omega) (by omega) fun v => BoolK.mk (fun _ => ?_) (fun _ => ?_)⟩
    · obtain ⟨g, o, m, u, own, out, last, f1, f2, f3, ha, hl, hc', rfl, hk2, hSo, hsl, hle, _, c0, _⟩ := h14.thAt hs4 (x := k) (by omega) t
      refine ⟨_, _, _, hc4, ⟨by omega, t⟩, own, c0, (c60 h14 _ _ hS hSo (ent := ((k + 1 : Nat) : Int)) ⟨by omega, by show ((k + 1 : Nat) : Int) ≤ N.n; omega⟩ (by show N.f + d + 1 ≤ _; omega)).mono ?_⟩
      rintro en w28 ⟨rfl, κ2, h28, p28⟩
      exact ⟨rfl, ⟨κ2, k + 1, d + 1, rfl, by omega, by omega, h28, p14.trans p28⟩, by simp; omega⟩
    · exact ⟨⟨κ1, k + 1, d, rfl, by omega, by omega, h14, p14⟩, by simp; omega⟩
  · have h14 : RR κ1 (N.addF N.n) r w14 := h14.grow ⟨rfl, rfl, Nat.le_refl _, Nat.le_refl _, Nat.le_refl _, by show N.f + d ≤ N.f + N.n; omega⟩ (h.lim hf)
    refine ⟨fun i w' => ∃ (k : Nat), i = k ∧ k ≤ N.n ∧ RR κ1 (N.addF N.n) r w' ∧ PkR κ κ1 w4 w', fun i _ => N.n - i.toNat, ⟨⟨0, rfl, Nat.zero_le _, h14, p14⟩, trivial⟩, ?_⟩
    rintro w32 _ ⟨k2, rfl, hk2, h32, p32⟩
    obtain ⟨a5, c5, hc5, hs5⟩ := h32.c4
    refine ⟨_, _, _, hc5, BoolK.mk (fun t2 => ?_) (fun t2 => PostR.mk h32 p32)⟩
    have t2 := of_decide_eq_true t2
    have t2 : (k2 : Int) < N.n := t2
    have e : IntKind.wrap .i64 ((k2 : Int) + 1) = ((k2 + 1 : Nat) : Int) := wrap_succ (by omega)
    rw [e]
    have go : ∀ {w2 : World}, RR κ1 (N.addF N.n) r w2 → PkR κ κ1 w4 w2 → (∃ (k : Nat), ((k2 + 1 : Nat) : Int) = k ∧ k ≤ N.n ∧ RR κ1 (N.addF N.n) r w2 ∧ PkR κ κ1 w4 w2) ∧ N.n - (((k2 + 1 : Nat) : Int)).toNat < N.n - (k2 : Int).toNat := fun h2 p2 => ⟨⟨k2 + 1, rfl, by omega, h2, p2⟩, by simp; omega⟩
    obtain ⟨g, o, m, u, own, out, last, f1, f2, f3, ha, hl, hc', rfl, hkg, hSo, hsl, hle, hidx, _⟩ := h32.thAt hs5 (x := k2) (by omega) t2
    refine ⟨_, _, _, hc5, ⟨by omega, t2⟩, h32.drew fun w39 h39 hx39 p39 => ?_⟩
    have p39 := p32.trans p39
    obtain ⟨g', o', m', u', own, out, last, f1, f2, f3, ha, hl, hc', eg, hkg', hSo, hsl, hle, hidx', c0, _, c1, c2, _⟩ := h39.thAt hs5 (x := k2) (by omega) t2
    cases eg
    refine ⟨own, c0, BoolK.mk (fun _ => ⟨out, c1, BoolK.mk (fun _ => ?_) (fun _ => go h39 p39)⟩) (fun _ => go h39 p39)⟩
    obtain ⟨a6, c6, hc6, hs6⟩ := h39.c3
    obtain ⟨g6, o6, y6, rfl, hy6⟩ := clkAt h39 hs6 (x := x) hS
    obtain ⟨_, d1, y1, rfl⟩ := h39.cell (i := 1) (by omega)
    obtain ⟨_, d2, y2, rfl⟩ := h39.cell (i := 2) (by omega)
    refine ⟨_, _, _, hc6, hS, y6, hy6, last, c2, y1, d1, y2, d2, BoolK.mk (fun _ => ?_) (fun _ => go h39 p39)⟩
    have hi4 := hidx' 4 (by omega)
    show SetK w39 (((⟨g, o, none⟩ : Addr).add ((k2 : Int).toNat * 7)).add 4) _ _
    rw [add_mk, add_mk]
    exact h39.setAt hkg' hi4.1 (by simp [NT]) (by rw [show (o + (k2 : Int).toNat * 7 + 4) % Kr.sz .ths = 4 from hi4.2]; exact ⟨true, rfl⟩) fun w51 h51 p51 _ => go h51 (p39.trans p51)
end
end Go.Proofs.YtgggbmikmmljcaaGreat

namespace Go.Proofs.YtgggbmikmmljcaaGreat
open Go Go.V Go.Proofs
open Go.RowKit (Below)
/-! manystrand/manystrandref11.SameInts -/
def N38 (a1 : Option Addr) (l1 : Nat) (_c1 : Nat) (a2 : Option Addr) (l2 : Nat) (_c2 : Nat) (K : Bool → World → Prop) (w : World) : Prop :=
 BoolK (((l1 : Nat) : Int) != (l2 : Nat))
 (K false w)
 (∃ (I3 : Int → World → Prop) (μ4 : Int → World → Nat),
 (I3 0 w ∧ True) ∧
 ∀ (w5 : World) (x6 : Int), I3 x6 w5 →
 BoolK (decide ((x6 : Int) < (l1 : Nat)))
 (DrewK w5 fun w7 =>
 (0 ≤ (x6 : Int) ∧ (x6 : Int) < (l1 : Nat)) ∧
 AddrK a1 fun b8 =>
 ∃ (x9 : Int), w7.cell? (b8.add ((x6 : Int).toNat * 1)) = some (.int .i64 x9) ∧
 ((0 ≤ (x6 : Int) ∧ (x6 : Int) < (l2 : Nat)) ∧
 AddrK a2 fun b10 =>
 ∃ (x11 : Int), w7.cell? (b10.add ((x6 : Int).toNat * 1)) = some (.int .i64 x11) ∧
 (BoolK ((x9 : Int) != x11)
 (K false w7)
 (I3 (IntKind.wrap .i64 (x6 + 1)) w7 ∧ μ4 (IntKind.wrap .i64 (x6 + 1)) w7 < μ4 x6 w5))))
 (K true w5))
def ann38 : Ann := (.two .nil (.two (.two .nil (.two (.two .nil .nil) .nil)) (.two (.two .nil (.one (.loop [(5, (.one (.int .i64)))] [0, 1] (.two (.two .nil (.two .nil .nil)) (.two (.one (.two (.any 9 (.take 0 (.take 1 (.take 2 (.take 3 (.take 4 (.take 5 (.take 6 (.take 7 (.take 8 .done)))))))))) (.two (.two .nil .nil) .nil))) .nil))))) (.two .nil .nil))))
noncomputable def code38 : Code := match Tryz.f38.body with | some c => c | none => .skip
theorem wp38 (a1 : Option Addr) (l1 : Nat) (c1 : Nat) (a2 : Option Addr) (l2 : Nat) (c2 : Nat) (K : Bool → World → Prop) (w : World) : WP Tryz.prog tab code38 ann38 (fnQ tab Tryz.f38.results.toList [(.one .bool)] K) (argE 0 [(.slice a1 l1 c1), (.slice a2 l2 c2)]) w = N38 a1 l1 c1 a2 l2 c2 K w := by kernel_rfl
theorem calls38 (a1 : Option Addr) (l1 : Nat) (c1 : Nat) (a2 : Option Addr) (l2 : Nat) (c2 : Nat) (K : Bool → World → Prop) (w : World) (h : N38 a1 l1 c1 a2 l2 c2 K w) : Calls Tryz.prog 38 #[(.slice a1 l1 c1), (.slice a2 l2 c2)] w fun en w' => ∃ (p12 : Bool), en = .returned (.bool p12) ∧ K p12 w' :=
 have e : (fun en w' => ExShs [(.one .bool)] fun vs => en = .returned (tupled vs) ∧ ap [(.one .bool)] K vs fun p => p w') = (fun (en : Ending) (w' : World) => ∃ (p12 : Bool), en = .returned (.bool p12) ∧ K p12 w') := by kernel_rfl
 e ▸ fn_sound tabOk mixed Tryz.func38 (by kernel_rfl : Tryz.f38.body = some code38) ann38 [(.slice a1 l1 c1), (.slice a2 l2 c2)] [(.one .bool)] K w (by kernel_rfl) ((wp38 a1 l1 c1 a2 l2 c2 K w).symm ▸ h)
end Go.Proofs.YtgggbmikmmljcaaGreat

namespace Go.Proofs.YtgggbmikmmljcaaGreat
open Go Go.V Go.Proofs
open Go.RowKit (Below)
/-! manystrand/manystrandlaw27.sameSets -/
def N40 (a1 : Option Addr) (l1 : Nat) (_c1 : Nat) (a2 : Option Addr) (l2 : Nat) (_c2 : Nat) (K : Bool → World → Prop) (w : World) : Prop :=
 BoolK (((l1 : Nat) : Int) != (l2 : Nat))
 (K false w)
 (∃ (I3 : Int → World → Prop) (μ4 : Int → World → Nat),
 (I3 0 w ∧ True) ∧
 ∀ (w5 : World) (x6 : Int), I3 x6 w5 →
 BoolK (decide ((x6 : Int) < (l1 : Nat)))
 (DrewK w5 fun w7 =>
 (0 ≤ (x6 : Int) ∧ (x6 : Int) < (l1 : Nat)) ∧
 AddrK a1 fun b8 =>
 ∃ (a9 : Option Addr) (l9 : Nat) (c9 : Nat), w7.cell? (b8.add ((x6 : Int).toNat * 1)) = some (.slice a9 l9 c9) ∧
 ((0 ≤ (x6 : Int) ∧ (x6 : Int) < (l2 : Nat)) ∧
 AddrK a2 fun b10 =>
 ∃ (a11 : Option Addr) (l11 : Nat) (c11 : Nat), w7.cell? (b10.add ((x6 : Int).toNat * 1)) = some (.slice a11 l11 c11) ∧
 (Calls Tryz.prog 38 #[(.slice a9 l9 c9), (.slice a11 l11 c11)] w7 fun e14 w13 =>
 ∃ (p12 : Bool), e14 = .returned (.bool p12) ∧
 (BoolK (!p12)
 (K false w13)
 (I3 (IntKind.wrap .i64 (x6 + 1)) w13 ∧ μ4 (IntKind.wrap .i64 (x6 + 1)) w13 < μ4 x6 w5)))))
 (K true w5))
def ann40 : Ann := (.two .nil (.two (.two .nil (.two (.two .nil .nil) .nil)) (.two (.two .nil (.one (.loop [(13, (.one (.int .i64)))] [0, 1, 12] (.two .nil (.two (.two .nil .nil) (.two (.one (.two .nil (.two (.any 8 (.take 0 (.take 1 (.take 2 (.take 3 (.take 4 (.take 5 (.take 6 (.take 7 .done))))))))) (.two (.two .nil .nil) .nil)))) .nil)))))) (.two .nil .nil))))
noncomputable def code40 : Code := match Tryz.f40.body with | some c => c | none => .skip
theorem wp40 (a1 : Option Addr) (l1 : Nat) (c1 : Nat) (a2 : Option Addr) (l2 : Nat) (c2 : Nat) (K : Bool → World → Prop) (w : World) : WP Tryz.prog tab code40 ann40 (fnQ tab Tryz.f40.results.toList [(.one .bool)] K) (argE 0 [(.slice a1 l1 c1), (.slice a2 l2 c2)]) w = N40 a1 l1 c1 a2 l2 c2 K w := by kernel_rfl
theorem calls40 (a1 : Option Addr) (l1 : Nat) (c1 : Nat) (a2 : Option Addr) (l2 : Nat) (c2 : Nat) (K : Bool → World → Prop) (w : World) (h : N40 a1 l1 c1 a2 l2 c2 K w) : Calls Tryz.prog 40 #[(.slice a1 l1 c1), (.slice a2 l2 c2)] w fun en w' => ∃ (p15 : Bool), en = .returned (.bool p15) ∧ K p15 w' :=
 have e : (fun en w' => ExShs [(.one .bool)] fun vs => en = .returned (tupled vs) ∧ ap [(.one .bool)] K vs fun p => p w') = (fun (en : Ending) (w' : World) => ∃ (p15 : Bool), en = .returned (.bool p15) ∧ K p15 w') := by kernel_rfl
 e ▸ fn_sound tabOk mixed Tryz.func40 (by kernel_rfl : Tryz.f40.body = some code40) ann40 [(.slice a1 l1 c1), (.slice a2 l2 c2)] [(.one .bool)] K w (by kernel_rfl) ((wp40 a1 l1 c1 a2 l2 c2 K w).symm ▸ h)
end Go.Proofs.YtgggbmikmmljcaaGreat

namespace Go.Proofs.YtgggbmikmmljcaaGreat
open Go Go.V Go.Proofs
open Go.RowKit (Below)
/-! manystrand/manystrandlaw27.looks -/
def N39 (o1 : Option Addr) (o2 : Option Addr) (x3 : Int) (x4 : Int) (K : Bool → World → Prop) (w : World) : Prop :=
 Calls Tryz.prog 11 #[(.pointer o1), (.int .i64 x4)] w fun e8 w7 =>
 ∃ (x5 : Int), ∃ (x6 : Int), e8 = .returned (.tuple #[(.int .i64 x5), (.int .i64 x6)]) ∧
 (Calls Tryz.prog 78 #[(.pointer o2), (.int .i64 x4)] w7 fun e12 w11 =>
 ∃ (x9 : Int), ∃ (x10 : Int), e12 = .returned (.tuple #[(.int .i64 x9), (.int .i64 x10)]) ∧
 (BoolK ((x5 : Int) == x9)
 (BoolK ((x6 : Int) == x10)
 (Calls Tryz.prog 12 #[(.pointer o1), (.int .i64 x3), (.int .i64 x4)] w11 fun e15 w14 =>
 ∃ (x13 : Int), e15 = .returned (.int .i64 x13) ∧
 (Calls Tryz.prog 79 #[(.pointer o2), (.int .i64 x3), (.int .i64 x4)] w14 fun e18 w17 =>
 ∃ (x16 : Int), e18 = .returned (.int .i64 x16) ∧
 (BoolK ((x13 : Int) == x16)
 (Calls Tryz.prog 13 #[(.pointer o1), (.int .i64 x4)] w17 fun e21 w20 =>
 ∃ (s19 : ByteArray), e21 = .returned (.string s19) ∧
 (Calls Tryz.prog 63 #[(.pointer o2), (.int .i64 x4)] w20 fun e24 w23 =>
 ∃ (s22 : ByteArray), e24 = .returned (.string s22) ∧
 (BoolK ((s19 : ByteArray).toList == (s22 : ByteArray).toList)
 (Calls Tryz.prog 16 #[(.pointer o1), (.int .i64 x3), (.int .i64 x4)] w23 fun e27 w26 =>
 ∃ (p25 : Bool), e27 = .returned (.bool p25) ∧
 (Calls Tryz.prog 66 #[(.pointer o2), (.int .i64 x3), (.int .i64 x4)] w26 fun e30 w29 =>
 ∃ (p28 : Bool), e30 = .returned (.bool p28) ∧
 (K (p25 == p28) w29)))
 (K false w23))))
 (K false w17))))
 (K false w11))
 (K false w11)))
def ann39 : Ann := (.two .nil (.two .nil (.two .nil (.two .nil .nil))))
noncomputable def code39 : Code := match Tryz.f39.body with | some c => c | none => .skip
theorem wp39 (o1 : Option Addr) (o2 : Option Addr) (x3 : Int) (x4 : Int) (K : Bool → World → Prop) (w : World) : WP Tryz.prog tab code39 ann39 (fnQ tab Tryz.f39.results.toList [(.one .bool)] K) (argE 0 [(.pointer o1), (.pointer o2), (.int .i64 x3), (.int .i64 x4)]) w = N39 o1 o2 x3 x4 K w := by kernel_rfl
theorem calls39 (o1 : Option Addr) (o2 : Option Addr) (x3 : Int) (x4 : Int) (K : Bool → World → Prop) (w : World) (h : N39 o1 o2 x3 x4 K w) : Calls Tryz.prog 39 #[(.pointer o1), (.pointer o2), (.int .i64 x3), (.int .i64 x4)] w fun en w' => ∃ (p31 : Bool), en = .returned (.bool p31) ∧ K p31 w' :=
 have e : (fun en w' => ExShs [(.one .bool)] fun vs => en = .returned (tupled vs) ∧ ap [(.one .bool)] K vs fun p => p w') = (fun (en : Ending) (w' : World) => ∃ (p31 : Bool), en = .returned (.bool p31) ∧ K p31 w') := by kernel_rfl
 e ▸ fn_sound tabOk mixed Tryz.func39 (by kernel_rfl : Tryz.f39.body = some code39) ann39 [(.pointer o1), (.pointer o2), (.int .i64 x3), (.int .i64 x4)] [(.one .bool)] K w (by kernel_rfl) ((wp39 o1 o2 x3 x4 K w).symm ▸ h)
end Go.Proofs.YtgggbmikmmljcaaGreat

namespace Go.Proofs.YtgggbmikmmljcaaGreat
open Go Go.V Go.Proofs
open Go.RowKit (Below)
def RdI (w : World) (a : Option Addr) (l : Nat) : Prop := ∀ i, i < l → ∃ b o, a = some ⟨b, o, none⟩ ∧ ∃ x, w.cell? ⟨b, o + i, none⟩ = some (.int .i64 x)
def RdL (w : World) (a : Option Addr) (l m : Nat) : Prop := ∀ i, i < l → ∃ b, a = some b ∧ ∃ a' l' c', w.cell? (b.add i) = some (.slice a' l' c') ∧ RdI w a' l' ∧ l' ≤ m
def RdL' (w : World) (a : Option Addr) (l : Nat) : Prop := ∀ i, i < l → ∃ b, a = some b ∧ ∃ a' l' c', w.cell? (b.add i) = some (.slice a' l' c') ∧ RdI w a' l'
section
variable {w w' w2 : World} {own own' : OwnM Role} {r : Raw} {S : CS} {κ κ' : Ka RK} {N N' : Prm} {q : Rb}
theorem adK {a : Option Addr} {b : Addr} (h : a = some b) {F : Addr → Prop} (k : F b) : AddrK a F := by subst h; exact k
theorem RdI.of {a : Option Addr} {l : Nat} {ys : List Int} (h : Ints w a l ys) : RdI w a l := fun i hi => by
  obtain ⟨b, o, ha, h0⟩ := h.get (i := i) (by rw [← h.1]; exact hi)
  exact ⟨_, _, ha, _, by simpa [RInt] using h0⟩
theorem RdI.ext {a : Option Addr} {l : Nat} (h : RdI w a l) (x : Ext w w') : RdI w' a l := fun i hi => by
  obtain ⟨b, o, ha, y, hy⟩ := h i hi; exact ⟨b, o, ha, y, x.cell hy⟩
theorem RdL.of {a : Option Addr} {l m : Nat} {d : List (List Int)} (h : Lists w a l d) (hm : ∀ ys ∈ d, ys.length ≤ m) : RdL w a l m := fun i hi => by
  have hi' : i < d.length := by rw [← h.1]; exact hi
  obtain ⟨b, o, ha, a', l', c', h0, h1⟩ := h.get hi'
  refine ⟨_, ha, a', l', c', by rw [add_mk]; simpa using h0, RdI.of h1, ?_⟩
  rw [h1.1]; exact hm _ (List.getElem_mem hi')
theorem RdI.keep {a : Option Addr} {l : Nat} (h : RdI w a l) (k : ∀ p, a = some p → p.block < w.heap.size → w'.heap[p.block]? = w.heap[p.block]?) : RdI w' a l := fun i hi => by
  obtain ⟨b, o, ha, y, hy⟩ := h i hi
  refine ⟨b, o, ha, y, ?_⟩
  have e : w'.heap[b]? = w.heap[b]? := k _ ha (show b < w.heap.size from block_lt_of_cell hy)
  unfold World.cell? at hy ⊢
  simp only at hy ⊢
  rw [e]; exact hy
theorem RdI.sl (h : RR κ N q w) {a : Option Addr} {l c : Nat} (hs : Sl Kr κ .ints (a, l, c)) : RdI w a l := fun i hi => by
  obtain ⟨g, o, n, u, e, hk, hj⟩ := hs.at_ h.ty (i := i) hi
  obtain ⟨-, -, v, hv, x, rfl⟩ := hj 0 (by decide)
  exact ⟨_, _, e, x, by simpa [Kr] using hv⟩
theorem RdL.sl (h : RR κ N q w) {a : Option Addr} {l c : Nat} (hs : Sl Kr κ .sets (a, l, c)) : RdL' w a l := fun i hi => by
  obtain ⟨g, o, n, u, e, hk, hj⟩ := hs.at_ h.ty (i := i) hi
  obtain ⟨-, -, v, hv, a', l', c', rfl, hs'⟩ := hj 0 (by decide)
  exact ⟨_, e, a', l', c', by rw [add_mk]; simpa [Kr] using hv, RdI.sl h hs'⟩
theorem c38 (w : World) {a1 a2 : Option Addr} {l1 l2 : Nat} (c1 c2 : Nat) (h1 : RdI w a1 l1) (h2 : RdI w a2 l2) (hl : l1 ≤ 1000000000) :
    Calls Tryz.prog 38 #[.slice a1 l1 c1, .slice a2 l2 c2] w fun en w' => ∃ p, en = .returned (.bool p) ∧ Ext w w' := by
  refine calls38 _ _ _ _ _ _ (fun _ w' => Ext w w') w ?_
  refine BoolK.mk (fun _ => Ext.refl _) (fun t => ?_)
  have e : l1 = l2 := by simp at t; omega
  subst e
  refine ⟨fun i w' => 0 ≤ i ∧ i ≤ l1 ∧ Ext w w', fun i _ => l1 - i.toNat, ⟨⟨Int.le_refl 0, by omega, Ext.refl _⟩, trivial⟩, ?_⟩
  rintro w5 i ⟨i0, i1, x5⟩
  refine BoolK.mk (fun t => ?_) (fun _ => x5)
  have t := of_decide_eq_true t
  refine DrewK.mk fun w7 x7 => ?_
  have x := x5.trans x7
  obtain ⟨b1, o1, e1, y1, hy1⟩ := h1.ext x i.toNat (by omega)
  obtain ⟨b2, o2, e2, y2, hy2⟩ := h2.ext x i.toNat (by omega)
  refine ⟨⟨i0, t⟩, adK e1 ⟨y1, by rw [add_mk, Nat.mul_one]; exact hy1, ⟨i0, t⟩, adK e2 ⟨y2, by rw [add_mk, Nat.mul_one]; exact hy2, BoolK.mk (fun _ => x) (fun _ => ?_)⟩⟩⟩
  rw [wrap_id] <;> first | omega | exact ⟨⟨by omega, by omega, x⟩, by show l1 - (i + 1).toNat < l1 - i.toNat; omega⟩
theorem c40 (w : World) {a1 a2 : Option Addr} {l1 l2 m : Nat} (c1 c2 : Nat) (h1 : RdL w a1 l1 m) (h2 : RdL' w a2 l2) (hm : m ≤ 1000000000) (hl : l2 ≤ 1000000000) :
    Calls Tryz.prog 40 #[.slice a1 l1 c1, .slice a2 l2 c2] w fun en w' => ∃ p, en = .returned (.bool p) ∧ Ext w w' := by
  refine calls40 _ _ _ _ _ _ (fun _ w' => Ext w w') w ?_
  refine BoolK.mk (fun _ => Ext.refl _) (fun t => ?_)
  have e : l1 = l2 := by simp at t; omega
  subst e
  refine ⟨fun i w' => 0 ≤ i ∧ i ≤ l1 ∧ Ext w w', fun i _ => l1 - i.toNat, ⟨⟨Int.le_refl 0, by omega, Ext.refl _⟩, trivial⟩, ?_⟩
  rintro w5 i ⟨i0, i1, x5⟩
  refine BoolK.mk (fun t => ?_) (fun _ => x5)
  have t := of_decide_eq_true t
  refine DrewK.mk fun w7 x7 => ?_
  have x := x5.trans x7
  obtain ⟨b1, e1, p1, n1, k1, hy1, g1, hn1⟩ := h1 i.toNat (by omega)
  obtain ⟨b2, e2, p2, n2, k2, hy2, g2⟩ := h2 i.toNat (by omega)
  refine ⟨⟨i0, t⟩, adK e1 ⟨p1, n1, k1, by rw [Nat.mul_one]; exact x.cell hy1, ⟨i0, t⟩, adK e2 ⟨p2, n2, k2, by rw [Nat.mul_one]; exact x.cell hy2, ?_⟩⟩⟩
  refine (c38 w7 k1 k2 (g1.ext x) (g2.ext x) (by omega)).mono ?_
  rintro en w13 ⟨p, rfl, x13⟩
  refine ⟨_, rfl, BoolK.mk (fun _ => x.trans x13) (fun _ => ?_)⟩
  rw [wrap_id] <;> first | omega | exact ⟨⟨by omega, by omega, x.trans x13⟩, by show l1 - (i + 1).toNat < l1 - i.toNat; omega⟩
structure Jt (w : World) (own : OwnM Role) (r : Raw) (S : CS) (κ : Ka RK) (N : Prm) (q : Rb) : Prop where
  c : CR w own r S
  r : RR κ N q w
  ap : ∀ b, own b ≠ none → κ b = none
structure FrJ (own own' : OwnM Role) (κ κ' : Ka RK) (w w' : World) : Prop where
  os : w'.os = w.os
  tape : w'.tape = w.tape
  output : w'.output = w.output
  size : w.heap.size ≤ w'.heap.size
  block : ∀ b, b < w.heap.size → own b = none → κ b = none → w'.heap[b]? = w.heap[b]?
  free : ∀ b, b < w.heap.size → own b = none → κ b = none → own' b = none ∧ κ' b = none
theorem FrJ.refl (own : OwnM Role) (κ : Ka RK) (w : World) : FrJ own own κ κ w w := ⟨rfl, rfl, rfl, Nat.le_refl _, fun _ _ _ _ => rfl, fun _ _ h k => ⟨h, k⟩⟩
theorem FrJ.trans {own2 : OwnM Role} {κ2 : Ka RK} (h : FrJ own own' κ κ' w w') (g : FrJ own' own2 κ' κ2 w' w2) : FrJ own own2 κ κ2 w w2 :=
  ⟨g.os.trans h.os, g.tape.trans h.tape, g.output.trans h.output, Nat.le_trans h.size g.size, fun b hb a k => by
    obtain ⟨a', k'⟩ := h.free b hb a k
    exact (g.block b (Nat.lt_of_lt_of_le hb h.size) a' k').trans (h.block b hb a k), fun b hb a k => by
    obtain ⟨a', k'⟩ := h.free b hb a k
    exact g.free b (Nat.lt_of_lt_of_le hb h.size) a' k'⟩
theorem FrJ.ext (own : OwnM Role) (κ : Ka RK) (x : Ext w w') : FrJ own own κ κ w w' := ⟨x.os, x.tape, x.output, x.size, fun b hb _ _ => x.block b hb, fun _ _ h k => ⟨h, k⟩⟩
theorem FrJ.blk (h : FrJ own own' κ κ' w w') {b t : Nat} {cs : Array Value} (hb : Blk w b cs t) (e1 : own b = none) (e2 : κ b = none) : Blk w' b cs t := (h.block b hb.lt e1 e2).trans hb
theorem FrJ.but {b : Nat} (h : FrJ own own' κ κ' w w') (x : But b w' w2) (hb : w.heap.size ≤ b) : FrJ own own' κ κ' w w2 :=
  ⟨x.os.trans h.os, x.tape.trans h.tape, x.output.trans h.output, by rw [x.size]; exact h.size, fun i hi a k => (x.block i (by omega)).trans (h.block i hi a k), h.free⟩
theorem Jt.ext (h : Jt w own r S κ N q) (x : Ext w w') : Jt w' own r S κ N q := ⟨h.c.ext x, h.r.ext x, h.ap⟩
theorem Jt.but (h : Jt w own r S κ N q) {b : Nat} (x : But b w w') (e1 : own b = none) (e2 : κ b = none) : Jt w' own r S κ N q := ⟨h.c.but e1 x, h.r.but x e2, h.ap⟩
theorem Jt.prog (h : Jt w own r S κ N q) {S' : CS} (p : PostC own r w S' w') : ∃ own' r', Jt w' own' r' S' κ N q ∧ FrJ own own' κ κ w w' ∧ r'.b = r.b ∧ ∀ b, κ b ≠ none → w'.heap[b]? = w.heap[b]? := by
  obtain ⟨own', r', h1, h2, h3⟩ := p
  have lt : ∀ b, κ b ≠ none → b < w.heap.size ∧ own b = none := fun b hb => ⟨by
      refine Nat.lt_of_not_le fun hc => hb (h.r.fresh hc), by
      cases e : own b with
      | none => rfl
      | some x => exact absurd (h.ap b (by rw [e]; simp)) hb⟩
  have keep : ∀ b, κ b ≠ none → w'.heap[b]? = w.heap[b]? := fun b hb => h2.block b (lt b hb).1 (lt b hb).2
  refine ⟨own', r', ⟨h1, h.r.frame keep, fun b hb => ?_⟩, ⟨h2.os, h2.tape, h2.output, h2.size, fun b hb a _ => h2.block b hb a, fun b hb a k => ⟨h2.free b hb a, k⟩⟩, h3, keep⟩
  cases e : κ b with
  | none => rfl
  | some x => exact absurd (h2.free b (lt b (by rw [e]; simp)).1 (lt b (by rw [e]; simp)).2) hb
theorem Jt.ref (h : Jt w own r S κ N q) (h1 : RR κ' N' q w') (p : FrM κ κ' w w') : Jt w' own r S κ' N' q ∧ FrJ own own κ κ' w w' := by
  have lt : ∀ b, own b ≠ none → b < w.heap.size := fun b hb => Nat.lt_of_not_le fun hc => hb (h.c.top b hc)
  refine ⟨⟨h.c.frame p.size fun b hb ho => p.block b hb (h.ap b ho), h1, fun b hb => p.free b (lt b hb) (h.ap b hb)⟩, ⟨p.os, p.tape, p.output, p.size, fun b hb _ k => p.block b hb k, fun b hb a k => ⟨a, p.free b hb k⟩⟩⟩
theorem c39 (h : Jt w own r S κ N q) (L : Lim2 S) (x y : Int) : Calls Tryz.prog 39 #[cp r, rp q, .int .i64 x, .int .i64 y] w fun en w' => ∃ p, en = .returned (.bool p) ∧ Ext w w' := by
  refine calls39 _ _ _ _ (fun _ w' => Ext w w') w ?_
  refine (c11 h.c L.toLim y).mono ?_
  rintro en w7 ⟨a, b, rfl, -, rfl⟩
  refine ⟨_, _, rfl, ?_⟩
  refine (c78 h.r y).mono ?_
  rintro en w11 ⟨a2, b2, rfl, rfl⟩
  refine ⟨_, _, rfl, BoolK.mk (fun _ => BoolK.mk (fun _ => ?_) (fun _ => Ext.refl _)) (fun _ => Ext.refl _)⟩
  refine (c12 h.c x y).mono ?_
  rintro en w14 ⟨a3, rfl, -, rfl⟩
  refine ⟨_, rfl, ?_⟩
  refine (c79 h.r x y).mono ?_
  rintro en w17 ⟨a4, rfl, rfl⟩
  refine ⟨_, rfl, BoolK.mk (fun _ => ?_) (fun _ => Ext.refl _)⟩
  refine (c13 h.c L y).mono ?_
  rintro en w20 ⟨s, rfl, -, x20⟩
  refine ⟨_, rfl, ?_⟩
  have h := h.ext x20
  refine (c63 h.r y).mono ?_
  rintro en w23 ⟨s2, rfl, x23⟩
  refine ⟨_, rfl, BoolK.mk (fun _ => ?_) (fun _ => x20.trans x23)⟩
  have h := h.ext x23
  refine (c16 h.c L.toLim x y).mono ?_
  rintro en w26 ⟨p, rfl, -, rfl⟩
  refine ⟨_, rfl, ?_⟩
  refine (c66 h.r x y).mono ?_
  rintro en w29 ⟨p2, rfl, rfl, -⟩
  exact ⟨_, rfl, x20.trans x23⟩
end
end Go.Proofs.YtgggbmikmmljcaaGreat

namespace Go.Proofs.YtgggbmikmmljcaaGreat
open Go Go.V Go.Proofs
open Go.RowKit (Below)
/-! manystrand/manystrandlaw27.plays -/
def N10 (o1 : Option Addr) (o2 : Option Addr) (x3 : Int) (x4 : Int) (x5 : Int) (x6 : Int) (K : Bool → World → Prop) (w : World) : Prop :=
 AllocK w (#[(.int .i64 x3), (.int .i64 x4), (.int .i64 x5), (.int .i64 x6)]) 33 fun b7 w8 =>
 ∃ (x9 : Int), w8.cell? b7 = some (.int .i64 x9) ∧
 (BoolK ((x9 : Int) == 0)
 (∃ (x10 : Int), w8.cell? (b7.add 1) = some (.int .i64 x10) ∧
 (Calls Tryz.prog 19 #[(.pointer o1), (.int .i64 x10)] w8 fun e14 w13 =>
 ∃ (x11 : Int), ∃ (x12 : Int), e14 = .returned (.tuple #[(.int .i64 x11), (.int .i64 x12)]) ∧
 (∃ (x15 : Int), w13.cell? (b7.add 1) = some (.int .i64 x15) ∧
 (Calls Tryz.prog 23 #[(.pointer o2), (.int .i64 x15)] w13 fun e19 w18 =>
 ∃ (x16 : Int), ∃ (x17 : Int), e19 = .returned (.tuple #[(.int .i64 x16), (.int .i64 x17)]) ∧
 (BoolK ((x11 : Int) == x16)
 (K ((x12 : Int) == x17) w18)
 (K false w18))))))
 (BoolK ((x9 : Int) == 1)
 (DrewK w8 fun w20 =>
 ∃ (v21 : World), Cel v21 w20 ∧
 (∃ (x22 : Int), v21.cell? (b7.add 1) = some (.int .i64 x22) ∧
 (∃ (x23 : Int), v21.cell? (b7.add 2) = some (.int .i64 x23) ∧
 (∃ (x24 : Int), v21.cell? (b7.add 1) = some (.int .i64 x24) ∧
 (∃ (x25 : Int), v21.cell? (b7.add 2) = some (.int .i64 x25) ∧
 (Calls Tryz.prog 20 #[(.pointer o1), (.int .i64 x22), (.int .i64 x23)] w20 fun e28 w27 =>
 ∃ (x26 : Int), e28 = .returned (.int .i64 x26) ∧
 (Cel v21 w27 ∧
 (Calls Tryz.prog 24 #[(.pointer o2), (.int .i64 x24), (.int .i64 x25)] w27 fun e31 w30 =>
 ∃ (x29 : Int), e31 = .returned (.int .i64 x29) ∧
 (K ((x26 : Int) == x29) w30)))))))))
 (BoolK ((x9 : Int) == 2)
 (DrewK w8 fun w32 =>
 ∃ (v33 : World), Cel v33 w32 ∧
 (∃ (x34 : Int), v33.cell? (b7.add 1) = some (.int .i64 x34) ∧
 (∃ (x35 : Int), v33.cell? (b7.add 2) = some (.int .i64 x35) ∧
 (∃ (x36 : Int), v33.cell? (b7.add 3) = some (.int .i64 x36) ∧
 (∃ (x37 : Int), v33.cell? (b7.add 1) = some (.int .i64 x37) ∧
 (∃ (x38 : Int), v33.cell? (b7.add 2) = some (.int .i64 x38) ∧
 (∃ (x39 : Int), v33.cell? (b7.add 3) = some (.int .i64 x39) ∧
 (Calls Tryz.prog 25 #[(.pointer o1), (.int .i64 x34), (.int .i64 x35), (.int .i64 x36)] w32 fun e42 w41 =>
 ∃ (x40 : Int), e42 = .returned (.int .i64 x40) ∧
 (Cel v33 w41 ∧
 (Calls Tryz.prog 26 #[(.pointer o2), (.int .i64 x37), (.int .i64 x38), (.int .i64 x39)] w41 fun e45 w44 =>
 ∃ (x43 : Int), e45 = .returned (.int .i64 x43) ∧
 (K ((x40 : Int) == x43) w44)))))))))))
 (BoolK ((x9 : Int) == 3)
 (DrewK w8 fun w46 =>
 ∃ (v47 : World), Cel v47 w46 ∧
 (∃ (x48 : Int), v47.cell? (b7.add 1) = some (.int .i64 x48) ∧
 (∃ (x49 : Int), v47.cell? (b7.add 2) = some (.int .i64 x49) ∧
 (∃ (x50 : Int), v47.cell? (b7.add 1) = some (.int .i64 x50) ∧
 (∃ (x51 : Int), v47.cell? (b7.add 2) = some (.int .i64 x51) ∧
 (Calls Tryz.prog 17 #[(.pointer o1), (.int .i64 x48), (.int .i64 x49)] w46 fun e54 w53 =>
 ∃ (x52 : Int), e54 = .returned (.int .i64 x52) ∧
 (Cel v47 w53 ∧
 (Calls Tryz.prog 27 #[(.pointer o2), (.int .i64 x50), (.int .i64 x51)] w53 fun e57 w56 =>
 ∃ (x55 : Int), e57 = .returned (.int .i64 x55) ∧
 (K ((x52 : Int) == x55) w56)))))))))
 (BoolK ((x9 : Int) == 4)
 (DrewK w8 fun w58 =>
 ∃ (v59 : World), Cel v59 w58 ∧
 (∃ (x60 : Int), v59.cell? (b7.add 1) = some (.int .i64 x60) ∧
 (∃ (x61 : Int), v59.cell? (b7.add 2) = some (.int .i64 x61) ∧
 (∃ (x62 : Int), v59.cell? (b7.add 1) = some (.int .i64 x62) ∧
 (∃ (x63 : Int), v59.cell? (b7.add 2) = some (.int .i64 x63) ∧
 (Calls Tryz.prog 28 #[(.pointer o1), (.int .i64 x60), (.int .i64 x61)] w58 fun e66 w65 =>
 ∃ (x64 : Int), e66 = .returned (.int .i64 x64) ∧
 (Cel v59 w65 ∧
 (Calls Tryz.prog 29 #[(.pointer o2), (.int .i64 x62), (.int .i64 x63)] w65 fun e69 w68 =>
 ∃ (x67 : Int), e69 = .returned (.int .i64 x67) ∧
 (K ((x64 : Int) == x67) w68)))))))))
 (BoolK ((x9 : Int) == 5)
 (DrewK w8 fun w70 =>
 ∃ (v71 : World), Cel v71 w70 ∧
 (∃ (x72 : Int), v71.cell? (b7.add 1) = some (.int .i64 x72) ∧
 (∃ (x73 : Int), v71.cell? (b7.add 2) = some (.int .i64 x73) ∧
 (∃ (x74 : Int), v71.cell? (b7.add 1) = some (.int .i64 x74) ∧
 (∃ (x75 : Int), v71.cell? (b7.add 2) = some (.int .i64 x75) ∧
 (Calls Tryz.prog 30 #[(.pointer o1), (.int .i64 x72), (.int .i64 x73)] w70 fun e78 w77 =>
 ∃ (x76 : Int), e78 = .returned (.int .i64 x76) ∧
 (Cel v71 w77 ∧
 (Calls Tryz.prog 31 #[(.pointer o2), (.int .i64 x74), (.int .i64 x75)] w77 fun e81 w80 =>
 ∃ (x79 : Int), e81 = .returned (.int .i64 x79) ∧
 (K ((x76 : Int) == x79) w80)))))))))
 (BoolK ((x9 : Int) == 6)
 (DrewK w8 fun w82 =>
 ∃ (v83 : World), Cel v83 w82 ∧
 (∃ (x84 : Int), v83.cell? (b7.add 1) = some (.int .i64 x84) ∧
 (∃ (x85 : Int), v83.cell? (b7.add 1) = some (.int .i64 x85) ∧
 (Calls Tryz.prog 15 #[(.pointer o1), (.int .i64 x84)] w82 fun e88 w87 =>
 ∃ (x86 : Int), e88 = .returned (.int .i64 x86) ∧
 (Cel v83 w87 ∧
 (Calls Tryz.prog 32 #[(.pointer o2), (.int .i64 x85)] w87 fun e91 w90 =>
 ∃ (x89 : Int), e91 = .returned (.int .i64 x89) ∧
 (K ((x86 : Int) == x89) w90)))))))
 (BoolK ((x9 : Int) == 7)
 (DrewK w8 fun w92 =>
 ∃ (v93 : World), Cel v93 w92 ∧
 (∃ (x94 : Int), v93.cell? (b7.add 1) = some (.int .i64 x94) ∧
 (∃ (x95 : Int), v93.cell? (b7.add 1) = some (.int .i64 x95) ∧
 (Calls Tryz.prog 33 #[(.pointer o1), (.int .i64 x94)] w92 fun e98 w97 =>
 ∃ (x96 : Int), e98 = .returned (.int .i64 x96) ∧
 (Cel v93 w97 ∧
 (Calls Tryz.prog 34 #[(.pointer o2), (.int .i64 x95)] w97 fun e101 w100 =>
 ∃ (x99 : Int), e101 = .returned (.int .i64 x99) ∧
 (K ((x96 : Int) == x99) w100)))))))
 (BoolK ((x9 : Int) == 8)
 (DrewK w8 fun w102 =>
 ∃ (v103 : World), Cel v103 w102 ∧
 (∃ (x104 : Int), v103.cell? (b7.add 1) = some (.int .i64 x104) ∧
 (∃ (x105 : Int), v103.cell? (b7.add 1) = some (.int .i64 x105) ∧
 (Calls Tryz.prog 35 #[(.pointer o1), (.int .i64 x104)] w102 fun e108 w107 =>
 ∃ (x106 : Int), e108 = .returned (.int .i64 x106) ∧
 (Cel v103 w107 ∧
 (Calls Tryz.prog 36 #[(.pointer o2), (.int .i64 x105)] w107 fun e111 w110 =>
 ∃ (x109 : Int), e111 = .returned (.int .i64 x109) ∧
 (K ((x106 : Int) == x109) w110)))))))
 (BoolK ((x9 : Int) == 9)
 (∃ (x112 : Int), w8.cell? (b7.add 1) = some (.int .i64 x112) ∧
 (Calls Tryz.prog 18 #[(.pointer o1), (.int .i64 x112)] w8 fun e116 w115 =>
 ∃ (a113 : Option Addr), ∃ (l113 : Nat), ∃ (c113 : Nat), ∃ (x114 : Int), e116 = .returned (.tuple #[(.slice a113 l113 c113), (.int .i64 x114)]) ∧
 (∃ (x117 : Int), w115.cell? (b7.add 1) = some (.int .i64 x117) ∧
 (Calls Tryz.prog 37 #[(.pointer o2), (.int .i64 x117)] w115 fun e121 w120 =>
 ∃ (a118 : Option Addr), ∃ (l118 : Nat), ∃ (c118 : Nat), ∃ (x119 : Int), e121 = .returned (.tuple #[(.slice a118 l118 c118), (.int .i64 x119)]) ∧
 (Calls Tryz.prog 38 #[(.slice a113 l113 c113), (.slice a118 l118 c118)] w120 fun e124 w123 =>
 ∃ (p122 : Bool), e124 = .returned (.bool p122) ∧
 (BoolK p122
 (K ((x114 : Int) == x119) w123)
 (K false w123)))))))
 (∃ (x125 : Int), w8.cell? (b7.add 1) = some (.int .i64 x125) ∧
 (∃ (x126 : Int), w8.cell? (b7.add 2) = some (.int .i64 x126) ∧
 (Calls Tryz.prog 39 #[(.pointer o1), (.pointer o2), (.int .i64 x125), (.int .i64 x126)] w8 fun e129 w128 =>
 ∃ (p127 : Bool), e129 = .returned (.bool p127) ∧
 (BoolK p127
 (Calls Tryz.prog 41 #[(.pointer o1)] w128 fun e132 w131 =>
 ∃ (a130 : Option Addr), ∃ (l130 : Nat), ∃ (c130 : Nat), e132 = .returned (.slice a130 l130 c130) ∧
 (Calls Tryz.prog 42 #[(.pointer o2)] w131 fun e135 w134 =>
 ∃ (a133 : Option Addr), ∃ (l133 : Nat), ∃ (c133 : Nat), e135 = .returned (.slice a133 l133 c133) ∧
 (Calls Tryz.prog 40 #[(.slice a130 l130 c130), (.slice a133 l133 c133)] w134 fun e138 w137 =>
 ∃ (p136 : Bool), e138 = .returned (.bool p136) ∧
 (K p136 w137))))
 (K false w128)))))))))))))))
def ann10 : Ann := (.two .nil (.two (.two .nil (.one (.two .nil (.two (.two .nil (.two .nil (.two .nil .nil))) (.two .nil (.two (.two (.anyD 11 (.take 0 (.take 1 (.take 2 (.take 3 (.take 4 (.take 6 (.take 7 (.take 8 (.take 9 (.take 10 (.one 5 .done)))))))))))) .nil) (.two .nil (.two (.two (.anyD 15 (.take 0 (.take 1 (.take 2 (.take 3 (.take 4 (.take 5 (.take 6 (.take 8 (.take 9 (.take 10 (.take 11 (.take 12 (.take 13 (.take 14 (.one 7 .done)))))))))))))))) .nil) (.two .nil (.two (.two (.anyD 11 (.take 0 (.take 1 (.take 2 (.take 3 (.take 4 (.take 6 (.take 7 (.take 8 (.take 9 (.take 10 (.one 5 .done)))))))))))) .nil) (.two .nil (.two (.two (.anyD 11 (.take 0 (.take 1 (.take 2 (.take 3 (.take 4 (.take 6 (.take 7 (.take 8 (.take 9 (.take 10 (.one 5 .done)))))))))))) .nil) (.two .nil (.two (.two (.anyD 11 (.take 0 (.take 1 (.take 2 (.take 3 (.take 4 (.take 6 (.take 7 (.take 8 (.take 9 (.take 10 (.one 5 .done)))))))))))) .nil) (.two .nil (.two (.two (.anyD 7 (.take 0 (.take 1 (.take 2 (.take 4 (.take 5 (.take 6 (.one 3 .done)))))))) .nil) (.two .nil (.two (.two (.anyD 7 (.take 0 (.take 1 (.take 2 (.take 4 (.take 5 (.take 6 (.one 3 .done)))))))) .nil) (.two .nil (.two (.two (.anyD 7 (.take 0 (.take 1 (.take 2 (.take 4 (.take 5 (.take 6 (.one 3 .done)))))))) .nil) (.two .nil (.two (.two .nil (.two .nil (.two .nil .nil))) .nil)))))))))))))))))))))) (.two .nil .nil)))
noncomputable def code10 : Code := match Tryz.f10.body with | some c => c | none => .skip
theorem wp10 (o1 : Option Addr) (o2 : Option Addr) (x3 : Int) (x4 : Int) (x5 : Int) (x6 : Int) (K : Bool → World → Prop) (w : World) : WP Tryz.prog tab code10 ann10 (fnQ tab Tryz.f10.results.toList [(.one .bool)] K) (argE 0 [(.pointer o1), (.pointer o2), (.agg #[(.int .i64 x3), (.int .i64 x4), (.int .i64 x5), (.int .i64 x6)])]) w = N10 o1 o2 x3 x4 x5 x6 K w := by kernel_rfl
theorem calls10 (o1 : Option Addr) (o2 : Option Addr) (x3 : Int) (x4 : Int) (x5 : Int) (x6 : Int) (K : Bool → World → Prop) (w : World) (h : N10 o1 o2 x3 x4 x5 x6 K w) : Calls Tryz.prog 10 #[(.pointer o1), (.pointer o2), (.agg #[(.int .i64 x3), (.int .i64 x4), (.int .i64 x5), (.int .i64 x6)])] w fun en w' => ∃ (p139 : Bool), en = .returned (.bool p139) ∧ K p139 w' :=
 have e : (fun en w' => ExShs [(.one .bool)] fun vs => en = .returned (tupled vs) ∧ ap [(.one .bool)] K vs fun p => p w') = (fun (en : Ending) (w' : World) => ∃ (p139 : Bool), en = .returned (.bool p139) ∧ K p139 w') := by kernel_rfl
 e ▸ fn_sound tabOk mixed Tryz.func10 (by kernel_rfl : Tryz.f10.body = some code10) ann10 [(.pointer o1), (.pointer o2), (.agg #[(.int .i64 x3), (.int .i64 x4), (.int .i64 x5), (.int .i64 x6)])] [(.one .bool)] K w (by kernel_rfl) ((wp10 o1 o2 x3 x4 x5 x6 K w).symm ▸ h)
end Go.Proofs.YtgggbmikmmljcaaGreat

namespace Go.Proofs.YtgggbmikmmljcaaGreat
open Go Go.V Go.Proofs
open Go.RowKit (Below)
section
variable {S S' : CS} {k f : Nat}
def Sm (S S' : CS) : Prop := S'.things.length = S.things.length ∧ S'.clocks.length = S.clocks.length
theorem Sm.refl (S : CS) : Sm S S := ⟨rfl, rfl⟩
theorem Sm.trans {S2 : CS} (h : Sm S S') (g : Sm S' S2) : Sm S S2 := ⟨g.1.trans h.1, g.2.trans h.2⟩
theorem Sm.setTh (S : CS) (i : Nat) (t : Th) : Sm S (S.setTh i t) := ⟨by simp [CS.setTh], rfl⟩
theorem Sm.passes (q : Int × Int) (l : List Int) : ∀ S : CS, Sm S (CS.passes q l S).1 := by
  induction l with
  | nil => exact fun S => Sm.refl S
  | cons to l ih =>
    intro S; unfold CS.passes; split
    · exact Sm.trans ⟨rfl, rfl⟩ (ih (S.half q to))
    · exact Sm.refl S
theorem Sm.again (S : CS) (q : Int × Int) : Sm S (S.again q) := by
  have h := Sm.passes q (S.waits q) S
  unfold CS.again; split
  · exact h
  · exact h
theorem TakeOk.len {m : Msg} (p : TakeOk S m S') : Sm S S' := by
  unfold TakeOk at p
  split at p
  · obtain ⟨s, -, p⟩ := p
    split at p
    · subst p; exact Sm.setTh S _ _
    · subst p; exact Sm.refl S
  split at p
  · subst p; exact Sm.again ((S.unask (m.to, m.ent)).pay (m.to, m.ent) m.n) _
  split at p
  · subst p; exact Sm.refl S
  split at p
  · subst p; exact Sm.setTh S _ _
  split at p
  · split at p
    · subst p; exact Sm.refl S
    · subst p; exact Sm.setTh S _ _
  split at p <;> (subst p; exact Sm.refl _)
theorem PlayOk.len {d a b c : Int} (p : PlayOk S d a b c S') (h0 : d ≠ 0) : Sm S S' := by
  unfold PlayOk at p
  rw [if_neg h0] at p
  split at p
  · subst p; unfold CS.askS; split <;> exact Sm.refl S
  split at p
  · unfold PassOk at p
    split at p
    · split at p
      · obtain ⟨s, -, rfl⟩ := p
        split
        · exact Sm.setTh S _ _
        · exact Sm.refl S
      · subst p
        split
        · exact Sm.refl S
        · split
          · exact Sm.refl S
          · split <;> exact Sm.refl S
    · subst p; exact Sm.refl _
  split at p
  · obtain ⟨e, p⟩ := p
    unfold DropOk at p
    split at p
    · split at p
      · split at p
        · obtain ⟨-, rfl⟩ := p; exact Sm.refl _
        · obtain ⟨-, rfl⟩ := p
          split
          · exact Sm.setTh S _ _
          · exact Sm.refl S
      · obtain ⟨-, rfl⟩ := p; exact Sm.refl _
    · obtain ⟨-, rfl⟩ := p; exact Sm.refl _
  split at p
  · rcases p with rfl | ⟨_, _, rfl⟩
    · exact Sm.refl _
    · exact Sm.setTh S _ _
  split at p
  · rcases p with rfl | ⟨_, ys, zs, rfl, _⟩
    · exact Sm.refl _
    · exact Sm.setTh S _ _
  split at p
  · obtain ⟨e, p⟩ := p
    rcases p with ⟨_, _, rfl⟩ | ⟨m, _, _, _, p⟩
    · exact Sm.refl _
    · exact p.len
  split at p
  · subst p; unfold CS.drops; split <;> exact Sm.refl S
  split at p
  · exact ⟨p.len, p.clocks⟩
  split at p
  · rcases p with ⟨_, rfl⟩ | ⟨_, n, S1, S2, ys, ⟨h1, _⟩, h2, rfl, _⟩
    · exact Sm.refl _
    · exact ⟨by show S2.things.length = _; rw [h2.k.things, h1.len], by show S2.clocks.length = _; rw [h2.k.clocks, h1.eq]⟩
  · subst p; exact Sm.refl _
structure Bd (k f : Nat) (N : Prm) (S : CS) : Prop where
  n : N.n = S.things.length
  s : N.s = S.clocks.length
  p : N.p ≤ k
  o : N.o ≤ k
  h : N.h ≤ k
  f : N.f ≤ f
end
section
variable {w w' w1 w2 : World} {own own' : OwnM Role} {r r' : Raw} {S S' : CS} {κ κ' : Ka RK} {N N1 : Prm} {q : Rb} {k f : Nat} {d a b c : Int}
def PlayJ (w : World) (own : OwnM Role) (r : Raw) (S : CS) (κ : Ka RK) (q : Rb) (d a b c : Int) (k f : Nat) (w' : World) : Prop :=
  ∃ own' r' S' κ' N', Jt w' own' r' S' κ' N' q ∧ r'.b = r.b ∧ FrJ own own' κ κ' w w' ∧ PlayOk S d a b c S' ∧ Bd (k + 1) (f + k + 1) N' S'
theorem closeJ (J : Jt w1 own' r' S' κ N q) (F : FrJ own own' κ κ w w1) (er : r'.b = r.b) (hp : PlayOk S d a b c S') (hd : d ≠ 0) (B : Bd k f N S) (R : PostR κ N1 q w1 w2) (hN : N1.s = N.s ∧ N1.n = N.n ∧ N1.p ≤ N.p + 1 ∧ N1.o ≤ N.o + 1 ∧ N1.h ≤ N.h + 1 ∧ N1.f ≤ N.f + k + 1) : PlayJ w own r S κ q d a b c k f w2 := by
  obtain ⟨κ', h1, p1⟩ := R
  obtain ⟨J2, F2⟩ := J.ref h1 (FrM.of p1)
  obtain ⟨l1, l2⟩ := hp.len hd
  obtain ⟨n1, n2, n3, n4, n5, n6⟩ := hN
  have b3 := B.p; have b4 := B.o; have b5 := B.h; have b6 := B.f
  exact ⟨own', r', S', κ', N1, J2, er, F.trans F2, hp, ⟨by rw [n2, l1]; exact B.n, by rw [n1, l2]; exact B.s, by omega, by omega, by omega, by omega⟩⟩
def one (b : Nat) : Ka Unit := fun i => if i = b then some ((), 0, 0) else none
def subO (b : Nat) (w : World) : World := subK (one b) (fun _ => true) w
theorem subO_cell (w : World) (b i : Nat) : (subO b w).cell? ⟨b, i, none⟩ = w.cell? ⟨b, i, none⟩ := subK_cell (k := ()) (n := 0) (u := 0) (by simp [one]) rfl i
theorem subO_cel {b : Nat} (h : w'.heap[b]? = w.heap[b]?) : Cel (subO b w) w' := subK_cel fun i k n u e _ _ => by
  simp only [one] at e; split at e
  · rename_i hi; rw [hi]; exact h
  · cases e
theorem bx4 {b t i : Nat} {v : Value} {cs : Array Value} (h : Blk w b cs t) (hv : cs[i]? = some v) : w.cell? ((⟨b, 0, none⟩ : Addr).add i) = some v := by rw [add_mk, Nat.zero_add, h.cell]; exact hv
theorem bx40 {b t : Nat} {v : Value} {cs : Array Value} (h : Blk w b cs t) (hv : cs[0]? = some v) : w.cell? (⟨b, 0, none⟩ : Addr) = some v := by rw [h.cell]; exact hv
theorem bxO {b t i : Nat} {v : Value} {cs : Array Value} (h : Blk w b cs t) (hv : cs[i]? = some v) : (subO b w).cell? ((⟨b, 0, none⟩ : Addr).add i) = some v := by rw [add_mk, Nat.zero_add, subO_cell, h.cell]; exact hv
theorem c10 (h : Jt w own r S κ N q) (I : Inv k f S) (B : Bd k f N S) (hk : k < 1000) (hf : f ≤ 9000000) (d a b c : Int) :
    Calls Tryz.prog 10 #[cp r, rp q, .agg #[.int .i64 d, .int .i64 a, .int .i64 b, .int .i64 c]] w fun en w' => ∃ p, en = .returned (.bool p) ∧ PlayJ w own r S κ q d a b c k f w' := by
  refine calls10 _ _ _ _ _ _ (fun _ w' => PlayJ w own r S κ q d a b c k f w') w ?_
  refine AllocK.mk fun bb w8 hbb hB hx8 => ?_
  have G : Safe S := I.safe (by omega) (by omega)
  have L := G.toLim2
  have h8 := h.ext hx8
  have on : own bb = none := h.c.top bb (by omega)
  have kn : κ bb = none := h.r.fresh (by omega)
  have F8 : FrJ own own κ κ w w8 := FrJ.ext own κ hx8
  have Ith := I.th; have Ica := I.ca; have Ifl := I.fl
  have Bn := B.n; have Bp := B.p; have Bo := B.o; have Bh := B.h; have Bf := B.f
  refine ⟨_, bx40 hB rfl, BoolK.mk (fun t => ?_) (fun t0 => ?_)⟩
  · -- Make
    have e : d = 0 := by simpa using t
    subst e
    refine ⟨_, bx4 hB rfl, ?_⟩
    refine (c19 h8.c L.toLim a).mono ?_
    rintro en w13 ⟨n, e, rfl, -, P⟩
    obtain ⟨own1, r1, J, F, er, -⟩ := h8.prog P
    have hB13 := F.blk hB on kn
    refine ⟨_, _, rfl, _, bx4 hB13 rfl, ?_⟩
    refine (c23 J.r a (by omega)).mono ?_
    rintro en w18 ⟨n2, e2, rfl, R⟩
    have hp : PlayOk S 0 a b c (S.makeE a) := by unfold PlayOk; rw [if_pos rfl]
    have hiS : N.isS a ↔ S.isS a := by unfold Prm.isS CS.isS; rw [B.s]
    have done : PlayJ w own r S κ q 0 a b c k f w18 := by
      rcases R with ⟨hn, -, rfl⟩ | ⟨hy, -, κ', h1, p1⟩
      · refine ⟨own1, r1, _, κ, N, J, er, F8.trans F, hp, ?_⟩
        have : S.makeE a = S := if_neg fun hs => hn (hiS.2 hs)
        rw [this]
        exact ⟨B.n, B.s, by omega, by omega, by omega, by omega⟩
      · obtain ⟨J2, F2⟩ := J.ref h1 p1
        refine ⟨own1, r1, _, κ', N.addN, J2, er, (F8.trans F).trans F2, hp, ?_⟩
        have : S.makeE a = S.make a := if_pos (hiS.1 hy)
        rw [this]
        exact ⟨by show N.n + 1 = _; simp [CS.make, B.n], B.s, by show N.p ≤ _; omega, by show N.o ≤ _; omega, by show N.h ≤ _; omega, by show N.f ≤ _; omega⟩
    exact ⟨_, _, rfl, BoolK.mk (fun _ => done) (fun _ => done)⟩
  have n0 : d ≠ 0 := by simpa using t0
  refine BoolK.mk (fun t => ?_) (fun t1 => ?_)
  · have e : d = 1 := by simpa using t
    subst e
    refine DrewK.mk fun w20 hx20 => ?_
    have hB := hB.ext hx20
    have h20 := h8.ext hx20
    refine ⟨subO bb w20, subO_cel rfl, _, bxO hB rfl, _, bxO hB rfl, _, bxO hB rfl, _, bxO hB rfl, ?_⟩
    refine (c20 h20.c L.toLim a b).mono ?_
    rintro en w27 ⟨e, rfl, -, P⟩
    obtain ⟨own1, r1, J, F, er, -⟩ := h20.prog P
    refine ⟨_, rfl, subO_cel (F.block bb hB.lt on kn), ?_⟩
    refine (c24 J.r a b (by omega)).mono ?_
    rintro en w30 ⟨e2, rfl, R⟩
    exact ⟨_, rfl, closeJ J ((F8.trans (FrJ.ext own κ hx20)).trans F) er (by unfold PlayOk; rw [if_neg n0, if_pos rfl]) n0 B R ⟨rfl, rfl, by show N.p ≤ _; omega, by show N.o ≤ _; omega, by show N.h ≤ _; omega, by show N.f + 1 ≤ _; omega⟩⟩
  have n1 : d ≠ 1 := by simpa using t1
  refine BoolK.mk (fun t => ?_) (fun t2 => ?_)
  · have e : d = 2 := by simpa using t
    subst e
    refine DrewK.mk fun w20 hx20 => ?_
    have hB := hB.ext hx20
    have h20 := h8.ext hx20
    refine ⟨subO bb w20, subO_cel rfl, _, bxO hB rfl, _, bxO hB rfl, _, bxO hB rfl, _, bxO hB rfl, _, bxO hB rfl, _, bxO hB rfl, ?_⟩
    refine (c25 h20.c G a b c).mono ?_
    rintro en w27 ⟨e, rfl, S', hS, P⟩
    obtain ⟨own1, r1, J, F, er, -⟩ := h20.prog P
    refine ⟨_, rfl, subO_cel (F.block bb hB.lt on kn), ?_⟩
    refine (c26 J.r a b c (by omega) (by omega)).mono ?_
    rintro en w30 ⟨e2, rfl, R⟩
    exact ⟨_, rfl, closeJ J ((F8.trans (FrJ.ext own κ hx20)).trans F) er (by unfold PlayOk; rw [if_neg n0, if_neg n1, if_pos rfl]; exact hS) n0 B R ⟨rfl, rfl, by show N.p + 1 ≤ _; omega, by show N.o ≤ _; omega, by show N.h ≤ _; omega, by show N.f + 1 ≤ _; omega⟩⟩
  have n2 : d ≠ 2 := by simpa using t2
  refine BoolK.mk (fun t => ?_) (fun t3 => ?_)
  · have e : d = 3 := by simpa using t
    subst e
    refine DrewK.mk fun w20 hx20 => ?_
    have hB := hB.ext hx20
    have h20 := h8.ext hx20
    refine ⟨subO bb w20, subO_cel rfl, _, bxO hB rfl, _, bxO hB rfl, _, bxO hB rfl, _, bxO hB rfl, ?_⟩
    refine (c17 h20.c G a b).mono ?_
    rintro en w27 ⟨e, rfl, S', hS, P⟩
    obtain ⟨own1, r1, J, F, er, -⟩ := h20.prog P
    refine ⟨_, rfl, subO_cel (F.block bb hB.lt on kn), ?_⟩
    refine (c27 J.r a b (by omega)).mono ?_
    rintro en w30 ⟨e2, rfl, R⟩
    exact ⟨_, rfl, closeJ J ((F8.trans (FrJ.ext own κ hx20)).trans F) er (by unfold PlayOk; rw [if_neg n0, if_neg n1, if_neg n2, if_pos rfl]; exact ⟨_, hS⟩) n0 B R ⟨rfl, rfl, by show N.p ≤ _; omega, by show N.o ≤ _; omega, by show N.h ≤ _; omega, by show N.f + 1 ≤ _; omega⟩⟩
  have n3 : d ≠ 3 := by simpa using t3
  refine BoolK.mk (fun t => ?_) (fun t4 => ?_)
  · have e : d = 4 := by simpa using t
    subst e
    refine DrewK.mk fun w20 hx20 => ?_
    have hB := hB.ext hx20
    have h20 := h8.ext hx20
    refine ⟨subO bb w20, subO_cel rfl, _, bxO hB rfl, _, bxO hB rfl, _, bxO hB rfl, _, bxO hB rfl, ?_⟩
    refine (c28 h20.c G (by omega) a b).mono ?_
    rintro en w27 ⟨e, rfl, S', hS, P⟩
    obtain ⟨own1, r1, J, F, er, -⟩ := h20.prog P
    refine ⟨_, rfl, subO_cel (F.block bb hB.lt on kn), ?_⟩
    refine (c29 J.r a b (by omega) (by omega)).mono ?_
    rintro en w30 ⟨e2, rfl, R⟩
    exact ⟨_, rfl, closeJ J ((F8.trans (FrJ.ext own κ hx20)).trans F) er (by unfold PlayOk; rw [if_neg n0, if_neg n1, if_neg n2, if_neg n3, if_pos rfl]; exact hS) n0 B R ⟨rfl, rfl, by show N.p ≤ _; omega, by show N.o + 1 ≤ _; omega, by show N.h + 1 ≤ _; omega, by show N.f ≤ _; omega⟩⟩
  have n4 : d ≠ 4 := by simpa using t4
  refine BoolK.mk (fun t => ?_) (fun t5 => ?_)
  · have e : d = 5 := by simpa using t
    subst e
    refine DrewK.mk fun w20 hx20 => ?_
    have hB := hB.ext hx20
    have h20 := h8.ext hx20
    refine ⟨subO bb w20, subO_cel rfl, _, bxO hB rfl, _, bxO hB rfl, _, bxO hB rfl, _, bxO hB rfl, ?_⟩
    refine (c30 h20.c G (by omega) a b).mono ?_
    rintro en w27 ⟨e, rfl, S', hS, P⟩
    obtain ⟨own1, r1, J, F, er, -⟩ := h20.prog P
    refine ⟨_, rfl, subO_cel (F.block bb hB.lt on kn), ?_⟩
    refine (c31 J.r a b).mono ?_
    rintro en w30 ⟨e2, rfl, R⟩
    exact ⟨_, rfl, closeJ J ((F8.trans (FrJ.ext own κ hx20)).trans F) er (by unfold PlayOk; rw [if_neg n0, if_neg n1, if_neg n2, if_neg n3, if_neg n4, if_pos rfl]; exact hS) n0 B R ⟨rfl, rfl, by omega, by omega, by omega, by omega⟩⟩
  have n5 : d ≠ 5 := by simpa using t5
  refine BoolK.mk (fun t => ?_) (fun t6 => ?_)
  · have e : d = 6 := by simpa using t
    subst e
    refine DrewK.mk fun w20 hx20 => ?_
    have hB := hB.ext hx20
    have h20 := h8.ext hx20
    refine ⟨subO bb w20, subO_cel rfl, _, bxO hB rfl, _, bxO hB rfl, ?_⟩
    refine (c15 h20.c G a).mono ?_
    rintro en w27 ⟨e, rfl, S', hS, P⟩
    obtain ⟨own1, r1, J, F, er, -⟩ := h20.prog P
    refine ⟨_, rfl, subO_cel (F.block bb hB.lt on kn), ?_⟩
    refine (c32 J.r a (by omega)).mono ?_
    rintro en w30 ⟨e2, rfl, R⟩
    exact ⟨_, rfl, closeJ J ((F8.trans (FrJ.ext own κ hx20)).trans F) er (by unfold PlayOk; rw [if_neg n0, if_neg n1, if_neg n2, if_neg n3, if_neg n4, if_neg n5, if_pos rfl]; exact ⟨_, hS⟩) n0 B R ⟨rfl, rfl, by show N.p ≤ _; omega, by show N.o ≤ _; omega, by show N.h ≤ _; omega, by show N.f + (N.p + 1) ≤ _; omega⟩⟩
  have n6 : d ≠ 6 := by simpa using t6
  refine BoolK.mk (fun t => ?_) (fun t7 => ?_)
  · have e : d = 7 := by simpa using t
    subst e
    refine DrewK.mk fun w20 hx20 => ?_
    have hB := hB.ext hx20
    have h20 := h8.ext hx20
    refine ⟨subO bb w20, subO_cel rfl, _, bxO hB rfl, _, bxO hB rfl, ?_⟩
    refine (c33 h20.c L.toLim a).mono ?_
    rintro en w27 ⟨e, rfl, P⟩
    obtain ⟨own1, r1, J, F, er, -⟩ := h20.prog P
    refine ⟨_, rfl, subO_cel (F.block bb hB.lt on kn), ?_⟩
    refine (c34 J.r a).mono ?_
    rintro en w30 ⟨e2, rfl, R⟩
    exact ⟨_, rfl, closeJ J ((F8.trans (FrJ.ext own κ hx20)).trans F) er (by unfold PlayOk; rw [if_neg n0, if_neg n1, if_neg n2, if_neg n3, if_neg n4, if_neg n5, if_neg n6, if_pos rfl]) n0 B R ⟨rfl, rfl, by omega, by omega, by omega, by omega⟩⟩
  have n7 : d ≠ 7 := by simpa using t7
  refine BoolK.mk (fun t => ?_) (fun t8 => ?_)
  · have e : d = 8 := by simpa using t
    subst e
    refine DrewK.mk fun w20 hx20 => ?_
    have hB := hB.ext hx20
    have h20 := h8.ext hx20
    refine ⟨subO bb w20, subO_cel rfl, _, bxO hB rfl, _, bxO hB rfl, ?_⟩
    refine (c35 h20.c G (by omega) a).mono ?_
    rintro en w27 ⟨e, rfl, S', hS, P⟩
    obtain ⟨own1, r1, J, F, er, -⟩ := h20.prog P
    refine ⟨_, rfl, subO_cel (F.block bb hB.lt on kn), ?_⟩
    refine (c36 J.r a (by omega)).mono ?_
    rintro en w30 ⟨e2, rfl, R⟩
    exact ⟨_, rfl, closeJ J ((F8.trans (FrJ.ext own κ hx20)).trans F) er (by unfold PlayOk; rw [if_neg n0, if_neg n1, if_neg n2, if_neg n3, if_neg n4, if_neg n5, if_neg n6, if_neg n7, if_pos rfl]; exact hS) n0 B R ⟨rfl, rfl, by show N.p ≤ _; omega, by show N.o ≤ _; omega, by show N.h ≤ _; omega, by show N.f + N.n ≤ _; omega⟩⟩
  have n8 : d ≠ 8 := by simpa using t8
  refine BoolK.mk (fun t => ?_) (fun t9 => ?_)
  · have e : d = 9 := by simpa using t
    subst e
    refine ⟨_, bx4 hB rfl, ?_⟩
    refine (c18 h8.c G (by omega) I.caT a).mono ?_
    rintro en w115 ⟨a1, l1, c1, e1, rfl, ys, S', hys, hyl, hbk, P, hS⟩
    obtain ⟨own1, r1, J, F, er, kp⟩ := h8.prog P
    have hB2 := F.blk hB on kn
    refine ⟨_, _, _, _, rfl, _, bx4 hB2 rfl, ?_⟩
    refine (c37 J.r a (by omega)).mono ?_
    rintro en w120 ⟨a2, l2, c2, e2, rfl, κ', h1, p1, hs⟩
    have hI := (RdI.of hys).keep (w' := w120) fun p hp hlt => p1.block _ hlt (h8.r.fresh (hbk p hp))
    have hl1 : l1 = ys.length := hys.1
    refine ⟨_, _, _, _, rfl, ?_⟩
    refine (c38 w120 c1 c2 hI (RdI.sl h1 hs) (by omega)).mono ?_
    rintro en w123 ⟨p, rfl, hx123⟩
    have hp : PlayOk S 9 a b c S' := by
      unfold PlayOk
      rw [if_neg n0, if_neg n1, if_neg n2, if_neg n3, if_neg n4, if_neg n5, if_neg n6, if_neg n7, if_neg n8, if_pos rfl]
      rcases hS with ⟨x1, -, -, x2⟩ | ⟨x1, -, x2⟩
      · exact .inl ⟨x1, x2⟩
      · exact .inr ⟨x1, _, x2⟩
    have done : PlayJ w own r S κ q 9 a b c k f w123 := closeJ J (F8.trans F) er hp n0 B (PostR.mk (h1.ext hx123) (p1.trans (h1.pkExt hx123))) ⟨rfl, rfl, by show N.p ≤ _; omega, by show N.o ≤ _; omega, by show N.h ≤ _; omega, by show N.f + N.o ≤ _; omega⟩
    exact ⟨_, rfl, BoolK.mk (fun _ => done) (fun _ => done)⟩
  · have n9 : d ≠ 9 := by simpa using t9
    have hp : PlayOk S d a b c S := by
      unfold PlayOk
      rw [if_neg n0, if_neg n1, if_neg n2, if_neg n3, if_neg n4, if_neg n5, if_neg n6, if_neg n7, if_neg n8, if_neg n9]
    refine ⟨_, bx4 hB rfl, _, bx4 hB rfl, ?_⟩
    refine (c39 h8 L a b).mono ?_
    rintro en w128 ⟨p, rfl, hx128⟩
    have h128 := h8.ext hx128
    refine ⟨_, rfl, BoolK.mk (fun _ => ?_) (fun _ => closeJ h128 (F8.trans (FrJ.ext own κ hx128)) rfl hp n0 B (PostR.mk h128.r (Pk.refl _ _ _)) ⟨rfl, rfl, by omega, by omega, by omega, by omega⟩)⟩
    refine (c41 h128.c L (by have := I.ck; omega) (fun t ht y hy => by obtain ⟨x, hx, rfl⟩ := mem_th ht; exact (I.onl x hx).2 y hy)).mono ?_
    rintro en w131 ⟨a1, l1, c1, rfl, hM, hx131⟩
    have h131 := h128.ext hx131
    refine ⟨_, _, _, rfl, ?_⟩
    refine (c42 h131.r).mono ?_
    rintro en w134 ⟨a2, l2, c2, rfl, κ', h1, p1, hs, hl2⟩
    have hM2 := hM.kept (w' := w134) fun j hj hlt => p1.block j hlt (h128.r.fresh hj)
    obtain ⟨dd, hd1, hd2⟩ := hM2.lists
    refine ⟨_, _, _, rfl, ?_⟩
    refine (c40 w134 c1 c2 (RdL.of hd1 hd2) (RdL.sl h1 hs) (by omega) (by omega)).mono ?_
    rintro en w137 ⟨p2, rfl, hx137⟩
    exact ⟨_, rfl, closeJ h131 ((F8.trans (FrJ.ext own κ hx128)).trans (FrJ.ext own κ hx131)) rfl hp n0 B (PostR.mk (h1.ext hx137) (p1.trans (h1.pkExt hx137))) ⟨rfl, rfl, by omega, by omega, by omega, by omega⟩⟩
end
end Go.Proofs.YtgggbmikmmljcaaGreat

namespace Go.Proofs.YtgggbmikmmljcaaGreat
open Go Go.V Go.Proofs
open Go.RowKit (Below)
/-! manystrand/manystrandlaw27.proxies -/
def N9 (o1 : Option Addr) (o2 : Option Addr) (K : Option Nat → World → Prop) (w : World) : Prop :=
 ∃ (m3 : Option Nat), ∃ (w4 : World), Sem.run Tryz.prog (Instr.makeMap 31 none) w = .ok (.map m3) w4 ∧
 (∃ (I5 : Int → World → Prop) (μ6 : Int → World → Nat),
 (I5 1 w4 ∧ True) ∧
 ∀ (w7 : World) (x8 : Int), I5 x8 w7 →
 AddrK o2 fun b9 =>
 ∃ (a10 : Option Addr) (l10 : Nat) (c10 : Nat), w7.cell? (b9.add 4) = some (.slice a10 l10 c10) ∧
 (BoolK (decide ((x8 : Int) ≤ (l10 : Nat)))
 (AddrK o2 fun b11 =>
 ∃ (x12 : Int), w7.cell? b11 = some (.int .i64 x12) ∧
 (∃ (I13 : Int → World → Prop) (μ14 : Int → World → Nat),
 (I13 0 w7 ∧ True) ∧
 ∀ (w15 : World) (x16 : Int), I13 x16 w15 →
 BoolK (decide ((x16 : Int) < x12))
 (DrewK w15 fun w17 =>
 (∃ (x18 : Int), ∃ (w19 : World), Sem.run Tryz.prog (Instr.lookup 31 (.map m3) (.int .i64 x8) false) w17 = .ok (.int .i64 x18) w19 ∧
 (Cel w17 w19 ∧
 (Calls Tryz.prog 12 #[(.pointer o1), (.int .i64 x16), (.int .i64 x8)] w19 fun e22 w21 =>
 ∃ (x20 : Int), e22 = .returned (.int .i64 x20) ∧
 (Cel w17 w21 ∧
 (∃ (w23 : World), Sem.run Tryz.prog (Instr.mapUpdate 31 (.map m3) (.int .i64 x8) (.int .i64 (IntKind.wrap .i64 (x18 + x20)))) w21 = .ok () w23 ∧
 (I13 (IntKind.wrap .i64 (x16 + 1)) w23 ∧ μ14 (IntKind.wrap .i64 (x16 + 1)) w23 < μ14 x16 w15)))))) ∧
 (Calls Tryz.prog 12 #[(.pointer o1), (.int .i64 x16), (.int .i64 x8)] w17 fun e26 w25 =>
 ∃ (x24 : Int), e26 = .returned (.int .i64 x24) ∧
 (Cel w17 w25 ∧
 (∃ (x27 : Int), ∃ (w28 : World), Sem.run Tryz.prog (Instr.lookup 31 (.map m3) (.int .i64 x8) false) w25 = .ok (.int .i64 x27) w28 ∧
 (Cel w17 w28 ∧
 (∃ (w29 : World), Sem.run Tryz.prog (Instr.mapUpdate 31 (.map m3) (.int .i64 x8) (.int .i64 (IntKind.wrap .i64 (x27 + x24)))) w28 = .ok () w29 ∧
 (I13 (IntKind.wrap .i64 (x16 + 1)) w29 ∧ μ14 (IntKind.wrap .i64 (x16 + 1)) w29 < μ14 x16 w15)))))))
 (I5 (IntKind.wrap .i64 (x8 + 1)) w15 ∧ μ6 (IntKind.wrap .i64 (x8 + 1)) w15 < μ6 x8 w7)))
 (K m3 w7)))
def ann9 : Ann := (.two .nil (.two .nil (.two (.two .nil (.one (.loop [(6, (.one (.int .i64)))] [0, 1, 5] (.two (.two .nil (.two .nil .nil)) (.two (.one (.two .nil (.one (.loop [(22, (.one (.int .i64)))] [0, 1, 5, 6, 21] (.two .nil (.two (.two .nil .nil) (.two (.one (.two .nil (.any 8 (.take 0 (.take 1 (.take 3 (.take 4 (.take 5 (.both 2 (.one 6 (.take 7 .done)) (.one 6 (.one 2 (.take 7 .done)))))))))))) .nil))))))) .nil))))) (.two .nil .nil))))
noncomputable def code9 : Code := match Tryz.f9.body with | some c => c | none => .skip
theorem wp9 (o1 : Option Addr) (o2 : Option Addr) (K : Option Nat → World → Prop) (w : World) : WP Tryz.prog tab code9 ann9 (fnQ tab Tryz.f9.results.toList [(.one .map)] K) (argE 0 [(.pointer o1), (.pointer o2)]) w = N9 o1 o2 K w := by kernel_rfl
theorem calls9 (o1 : Option Addr) (o2 : Option Addr) (K : Option Nat → World → Prop) (w : World) (h : N9 o1 o2 K w) : Calls Tryz.prog 9 #[(.pointer o1), (.pointer o2)] w fun en w' => ∃ (m30 : Option Nat), en = .returned (.map m30) ∧ K m30 w' :=
 have e : (fun en w' => ExShs [(.one .map)] fun vs => en = .returned (tupled vs) ∧ ap [(.one .map)] K vs fun p => p w') = (fun (en : Ending) (w' : World) => ∃ (m30 : Option Nat), en = .returned (.map m30) ∧ K m30 w') := by kernel_rfl
 e ▸ fn_sound tabOk mixed Tryz.func9 (by kernel_rfl : Tryz.f9.body = some code9) ann9 [(.pointer o1), (.pointer o2)] [(.one .map)] K w (by kernel_rfl) ((wp9 o1 o2 K w).symm ▸ h)
end Go.Proofs.YtgggbmikmmljcaaGreat

namespace Go.Proofs.YtgggbmikmmljcaaGreat
open Go Go.V Go.Proofs
open Go.RowKit (Below)
section
variable {w w' w1 w2 : World} {own own' : OwnM Role} {r r' : Raw} {S S' : CS} {κ κ' : Ka RK} {N N1 : Prm} {q : Rb} {k f : Nat}
theorem mapN : MapT Tryz.prog 31 3 3 eK eK 0 := ⟨by kernel_rfl, keyInt (by kernel_rfl), fun w => by kernel_rfl⟩
def sums (S : CS) (n : Int) (t : Int) : Int := if 1 ≤ t ∧ t ≤ n then px S.prox S.clocks.length t else 0
theorem px_lt (I : Inv k f S) {j : Nat} (hj : j ≤ S.clocks.length) (t : Int) : px S.prox j t ≤ 65536 * k := by
  have h1 : px S.prox j t ≤ px S.prox S.clocks.length t := by
    generalize S.clocks.length = n at hj
    induction hj with
    | refl => exact Int.le_refl _
    | step _ ih => simp only [px]; have := I.px; rename_i m _; have := this ((m : Int), t); omega
  have := I.df t; have := I.flw t; have := I.outT1 t
  simp only [CS.dif] at *; omega
theorem c9 (h : Jt w own r S κ N q) (I : Inv k f S) (B : Bd k f N S) (hk : k ≤ 1000) : Calls Tryz.prog 9 #[cp r, rp q] w fun en w' => ∃ m, en = .returned (.map m) ∧
    ∃ g, m = some g ∧ w.heap.size ≤ g ∧ MapF eK eK 0 w' g (sums S S.things.length) ∧ Ext w w' := by
  refine calls9 _ _ (fun m w' => ∃ g, m = some g ∧ w.heap.size ≤ g ∧ MapF eK eK 0 w' g (sums S S.things.length) ∧ Ext w w') w ?_
  obtain ⟨w4, q4, M4, x4⟩ := MapF.make (P := Tryz.prog) (t := 31) (enc := eK) eK 0 w
  refine ⟨_, w4, q4, ?_⟩
  have Ith := I.th
  have Bn := B.n; have Bs := B.s; have ck := I.ck
  refine ⟨fun x w' => ∃ j : Nat, x = j + 1 ∧ j ≤ S.things.length ∧ MapF eK eK 0 w' w.heap.size (sums S j) ∧ Ext w w', fun x _ => S.things.length + 1 - x.toNat, ⟨⟨0, rfl, Nat.zero_le _, M4.congr fun t => (if_neg (by omega)).symm, x4⟩, trivial⟩, ?_⟩
  rintro w7 x ⟨j, rfl, hj, M7, x7⟩
  have h7 := h.ext x7
  obtain ⟨a4, c4, e4, _⟩ := h7.r.c4
  refine ⟨a4, N.n, c4, e4, BoolK.mk (fun t => ?_) (fun t => ?_)⟩
  · have t := of_decide_eq_true t
    refine ⟨N.s, h7.r.c0, ?_⟩
    refine ⟨fun y w' => ∃ i : Nat, y = i ∧ i ≤ S.clocks.length ∧ MapF eK eK 0 w' w.heap.size (fun t => if t = (j : Int) + 1 then px S.prox i t else sums S j t) ∧ Ext w w', fun y _ => S.clocks.length - y.toNat, ⟨⟨0, rfl, Nat.zero_le _, M7.congr fun t => ?_, x7⟩, trivial⟩, ?_⟩
    · split
      · exact if_neg (by omega)
      · rfl
    rintro w15 y ⟨i, rfl, hi, M15, x15⟩
    refine BoolK.mk (fun t2 => ?_) (fun t2 => ?_)
    · have t2 := of_decide_eq_true t2
      refine DrewK.mk fun w17 x17 => ?_
      have M17 := M15.ext x17
      have x := x15.trans x17
      have h17 := h.ext x
      have lk := M17.lookup mapN ((j : Int) + 1)
      simp only [if_true] at lk
      have hpx : 0 ≤ px S.prox i ((j : Int) + 1) := px_nonneg I.px _ _
      have hp1 : 0 ≤ S.prox ((i : Int), (j : Int) + 1) := I.px _
      have hb := px_lt I (j := i + 1) (by omega) ((j : Int) + 1)
      have ep : px S.prox (i + 1) ((j : Int) + 1) = px S.prox i ((j : Int) + 1) + S.prox ((i : Int), (j : Int) + 1) := rfl
      have fin : ∀ v, v = px S.prox i ((j : Int) + 1) + S.prox ((i : Int), (j : Int) + 1) → ∃ w23, Sem.run Tryz.prog (Instr.mapUpdate 31 (.map (some w.heap.size)) (.int .i64 ((j : Int) + 1)) (.int .i64 (IntKind.wrap .i64 v))) w17 = .ok () w23 ∧
          ((∃ i2 : Nat, IntKind.wrap .i64 ((i : Int) + 1) = i2 ∧ i2 ≤ S.clocks.length ∧ MapF eK eK 0 w23 w.heap.size (fun t => if t = (j : Int) + 1 then px S.prox i2 t else sums S j t) ∧ Ext w w23) ∧ S.clocks.length - (IntKind.wrap .i64 ((i : Int) + 1)).toNat < S.clocks.length - (i : Int).toNat) := by
        rintro v rfl
        obtain ⟨w23, u1, u2, u3⟩ := M17.update mapN ((j : Int) + 1) (px S.prox i ((j : Int) + 1) + S.prox ((i : Int), (j : Int) + 1))
        rw [wrap_id (by omega) (by omega)]
        refine ⟨w23, u1, ?_⟩
        rw [wrap_id (by omega) (by omega)]
        refine ⟨⟨i + 1, by omega, by omega, u2.congr fun t => ?_, u3.below x (Nat.le_refl _)⟩, by omega⟩
        unfold upd
        by_cases e : t = (j : Int) + 1
        · rw [if_pos e, if_pos e, e, ep]
        · rw [if_neg e, if_neg e]; exact if_neg e
      constructor
      · refine ⟨_, w17, lk, Cel.refl _, (c12 h17.c i ((j : Int) + 1)).mono ?_⟩
        rintro en w21 ⟨p, rfl, rfl, rfl⟩
        exact ⟨_, rfl, Cel.refl _, fin _ rfl⟩
      · refine (c12 h17.c i ((j : Int) + 1)).mono ?_
        rintro en w21 ⟨p, rfl, rfl, rfl⟩
        exact ⟨_, rfl, Cel.refl _, _, _, lk, Cel.refl _, fin _ rfl⟩
    · have t2 := of_decide_eq_false t2
      have e : i = S.clocks.length := by omega
      subst e
      rw [wrap_id (by omega) (by omega)]
      refine ⟨⟨j + 1, by omega, by omega, M15.congr fun t => ?_, x15⟩, by show S.things.length + 1 - ((j : Int) + 1 + 1).toNat < S.things.length + 1 - ((j : Int) + 1).toNat; omega⟩
      unfold sums
      by_cases e : t = (j : Int) + 1
      · rw [if_pos e, if_pos (by omega)]
      · rw [if_neg e]
        by_cases e2 : 1 ≤ t ∧ t ≤ (j : Int)
        · rw [if_pos e2, if_pos (by omega)]
        · rw [if_neg e2, if_neg (by omega)]
  · have t := of_decide_eq_false t
    have e : j = S.things.length := by omega
    subst e
    exact ⟨_, rfl, Nat.le_refl _, M7, x7⟩
end
end Go.Proofs.YtgggbmikmmljcaaGreat

namespace Go.Proofs.YtgggbmikmmljcaaGreat
open Go Go.V Go.Proofs
open Go.RowKit (Below)
/-! manystrand/manystrandlaw27.awake -/
def N6 (K : Bool → World → Prop) (w : World) : Prop :=
 Calls Tryz.prog 5 #[(.int .i64 2), (.int .i64 5), (.int .i64 5)] w fun e4 w3 =>
 ∃ (o1 : Option Addr), ∃ (x2 : Int), e4 = .returned (.tuple #[(.pointer o1), (.int .i64 x2)]) ∧
 (BoolK ((x2 : Int) != 0)
 (K false w3)
 (Calls Tryz.prog 19 #[(.pointer o1), (.int .i64 0)] w3 fun e8 w7 =>
 ∃ (x5 : Int), ∃ (x6 : Int), e8 = .returned (.tuple #[(.int .i64 x5), (.int .i64 x6)]) ∧
 (Calls Tryz.prog 20 #[(.pointer o1), (.int .i64 1), (.int .i64 x5)] w7 fun e11 w10 =>
 ∃ (x9 : Int), e11 = .returned (.int .i64 x9) ∧
 (Calls Tryz.prog 15 #[(.pointer o1), (.int .i64 0)] w10 fun e14 w13 =>
 ∃ (x12 : Int), e14 = .returned (.int .i64 x12) ∧
 (Calls Tryz.prog 15 #[(.pointer o1), (.int .i64 0)] w13 fun e17 w16 =>
 ∃ (x15 : Int), e17 = .returned (.int .i64 x15) ∧
 (BoolK ((x5 : Int) == 1)
 (BoolK ((x6 : Int) == 0)
 (BoolK ((x9 : Int) == 0)
 (BoolK ((x12 : Int) == 0)
 (BoolK ((x15 : Int) == 0)
 (Calls Tryz.prog 12 #[(.pointer o1), (.int .i64 1), (.int .i64 1)] w16 fun e20 w19 =>
 ∃ (x18 : Int), e20 = .returned (.int .i64 x18) ∧
 (BoolK ((x18 : Int) == 65536)
 (Calls Tryz.prog 13 #[(.pointer o1), (.int .i64 1)] w19 fun e23 w22 =>
 ∃ (s21 : ByteArray), e23 = .returned (.string s21) ∧
 (K ((s21 : ByteArray).toList == ((⟨#[108, 105, 118, 101]⟩ : ByteArray) : ByteArray).toList) w22))
 (K false w19)))
 (K false w16))
 (K false w16))
 (K false w16))
 (K false w16))
 (K false w16)))))))
def ann6 : Ann := (.two .nil (.two .nil (.two (.two .nil (.two (.two .nil .nil) .nil)) (.two .nil (.two .nil (.two .nil (.two .nil (.two .nil .nil))))))))
noncomputable def code6 : Code := match Tryz.f6.body with | some c => c | none => .skip
theorem wp6 (K : Bool → World → Prop) (w : World) : WP Tryz.prog tab code6 ann6 (fnQ tab Tryz.f6.results.toList [(.one .bool)] K) (argE 0 []) w = N6 K w := by kernel_rfl
theorem calls6 (K : Bool → World → Prop) (w : World) (h : N6 K w) : Calls Tryz.prog 6 #[] w fun en w' => ∃ (p24 : Bool), en = .returned (.bool p24) ∧ K p24 w' :=
 have e : (fun en w' => ExShs [(.one .bool)] fun vs => en = .returned (tupled vs) ∧ ap [(.one .bool)] K vs fun p => p w') = (fun (en : Ending) (w' : World) => ∃ (p24 : Bool), en = .returned (.bool p24) ∧ K p24 w') := by kernel_rfl
 e ▸ fn_sound tabOk mixed Tryz.func6 (by kernel_rfl : Tryz.f6.body = some code6) ann6 [] [(.one .bool)] K w (by kernel_rfl) ((wp6 K w).symm ▸ h)
end Go.Proofs.YtgggbmikmmljcaaGreat

namespace Go.Proofs.YtgggbmikmmljcaaGreat
open Go Go.V Go.Proofs
open Go.RowKit (Below)
theorem isK_dec (s k : ByteArray) : isK s k = decide (bl s = bl k) := bl_eq s k
def A0 : CS := CS.zero 2 5 5
def A1 : CS := A0.make 0
def A2 : CS := ({ A1 with asked := upd A1.asked (1, 1) true }).send ⟨1, 0, kAsk, 1, 0⟩
def A3 : CS := (A2.take 0).give 1 kGive 1 ⟨0, true, 0, 0, false, false, []⟩
def A4 : CS := (((A3.take 0).unask (1, 1)).pay (1, 1) 65536).cut (1, 1)
theorem a1 : A0.makeE 0 = A1 := by rw [CS.makeE, if_pos (by decide)]; rfl
theorem a2 : A1.askS 1 1 = A2 := by rw [CS.askS, if_pos ⟨by decide, rfl, by decide, rfl, rfl⟩]; rfl
theorem live1 {S : CS} {s : ByteArray} (hT : S.isT 1) (h1 : (S.th 1).expired = false) (h2 : (S.th 1).holds = true) (h3 : (S.th 1).swept = false) (h : StateOk S 1 s) : isK s kLive = true := by
  rcases h with ⟨h, _⟩ | ⟨_, ⟨h, _⟩ | ⟨_, _, h⟩ | ⟨_, rfl, _⟩⟩
  · exact absurd hT h
  · rw [h1] at h; cases h
  · rcases h with h | ⟨_, h, _⟩
    · rw [h3] at h; cases h
    · rw [h2] at h; cases h
  · rw [isK_dec]; decide
theorem a3 {e : Int} {S' : CS} (h : DelOk A2 0 e S') : e = 0 ∧ S' = A3 := by
  rcases h with ⟨h, _⟩ | ⟨m, _, hm, rfl, ht⟩
  · exact absurd (by decide) h
  · have : m = ⟨1, 0, kAsk, 1, 0⟩ := by have : some m = some ⟨1, 0, kAsk, 1, 0⟩ := hm.symm.trans rfl; cases this; rfl
    subst this
    unfold TakeOk at ht
    rw [if_pos (by simp only [isK_dec]; decide)] at ht
    obtain ⟨s, hs, ht⟩ := ht
    rw [if_pos (live1 (by decide) rfl rfl rfl hs)] at ht
    exact ⟨rfl, ht⟩
theorem a4 {e : Int} {S' : CS} (h : DelOk A3 0 e S') : e = 0 ∧ S' = A4 := by
  rcases h with ⟨h, _⟩ | ⟨m, _, hm, rfl, ht⟩
  · exact absurd (by decide) h
  · have : m = ⟨0, 1, kGive, 1, 65536⟩ := by have : some m = some ⟨0, 1, kGive, 1, 65536⟩ := hm.symm.trans rfl; cases this; rfl
    subst this
    unfold TakeOk at ht
    rw [if_neg (by simp only [isK_dec]; decide), if_pos (by simp only [isK_dec]; decide)] at ht
    refine ⟨rfl, ht.trans ?_⟩
    rw [CS.again, if_pos (by rfl)]; rfl
theorem safeOf {S : CS} (h1 : S.things.length ≤ 1) (h2 : S.fly.length ≤ 1) (h3 : ∀ t ∈ S.things, t.on = [] ∧ S.isS t.owner ∧ 0 ≤ t.out ∧ t.out ≤ 65536) (h4 : ∀ k, 0 ≤ S.prox k ∧ S.prox k ≤ 65536) (h5 : ∀ m ∈ S.fly, S.isT m.ent ∧ 0 ≤ m.n ∧ m.n ≤ 65536) (h6 : ∀ k, S.waits k = []) : Safe S where
  th := by omega
  fly := by omega
  on := fun t ht => by rw [(h3 t ht).1]; simp
  own := fun t ht => (h3 t ht).2.1
  out := fun t ht => by have := (h3 t ht).2.2; omega
  prox := fun k => by have := h4 k; omega
  flyE := fun m hm => by have := h5 m hm; exact ⟨this.1, by omega, by omega⟩
  wl := fun k => by rw [h6]; simp; omega
theorem safe2 : Safe A2 := safeOf (by decide) (by decide) (fun t ht => by
    have : t = ⟨0, true, 0, 0, false, false, []⟩ := by simpa [A2, A1, A0, CS.send, CS.make, CS.zero] using ht
    subst this; exact ⟨rfl, by decide, by decide, by decide⟩) (fun k => ⟨Int.le_refl 0, by show (0 : Int) ≤ _; decide⟩) (fun m hm => by
    have : m = ⟨1, 0, kAsk, 1, 0⟩ := by simpa [A2, A1, A0, CS.send, CS.make, CS.zero] using hm
    subst this; exact ⟨by decide, by decide, by decide⟩) (fun k => rfl)
theorem safe3 : Safe A3 := safeOf (by decide) (by decide) (fun t ht => by
    have : t = ⟨0, true, 65536, 0, false, false, []⟩ := by simpa [A3, A2, A1, A0, CS.send, CS.make, CS.zero, CS.give, CS.take, CS.setTh] using ht
    subst this; exact ⟨rfl, by decide, by decide, by decide⟩) (fun k => ⟨Int.le_refl 0, by show (0 : Int) ≤ _; decide⟩) (fun m hm => by
    have : m = ⟨0, 1, kGive, 1, 65536⟩ := by simpa [A3, A2, A1, A0, CS.send, CS.make, CS.zero, CS.give, CS.take, CS.setTh] using hm
    subst this; exact ⟨by decide, by decide, by decide⟩) (fun k => rfl)
theorem lim1 : Lim A1 := ⟨by decide, by decide⟩
theorem lim4 : Lim2 A4 := ⟨⟨by decide, by decide⟩, fun t ht => by
    have : t = ⟨0, true, 65536, 0, false, false, []⟩ := by simpa [A4, A3, A2, A1, A0, CS.send, CS.make, CS.zero, CS.give, CS.take, CS.setTh, CS.cut, CS.pay, CS.unask] using ht
    subst this; simp⟩
theorem c6 (w : World) : Calls Tryz.prog 6 #[] w fun en w' => ∃ p, en = .returned (.bool p) ∧ (p = true ∧ Ext w w') := by
  refine calls6 _ w ?_
  refine (c5 2 5 5).mono ?_
  rintro en w3 ⟨o, e, rfl, ⟨h, _⟩ | ⟨_, rfl, own, r, rfl, h3, f3⟩⟩
  · exact absurd ⟨by decide, by decide, by decide, by decide, by decide, by decide⟩ h
  refine ⟨_, _, rfl, BoolK.mk (fun t => by cases t) (fun _ => ?_)⟩
  refine (c19 h3 ⟨by decide, by decide⟩ 0).mono ?_
  rintro en w7 ⟨n, e, rfl, he, own7, r7, h7, f7, e7⟩
  rw [if_pos (by decide)] at he
  obtain ⟨rfl, rfl⟩ : n = 1 ∧ e = 0 := by simpa [CS.zero] using he
  refine ⟨_, _, rfl, ?_⟩
  obtain ⟨rb, cl, ca, th, fl, mp, ma, mg, mm, mw, ths, wts⟩ := r7
  cases e7
  have h7 : CR w7 own7 _ A1 := a1 ▸ h7
  refine (c20 h7 lim1 1 1).mono ?_
  rintro en w10 ⟨e, rfl, he, own10, r10, h10, f10, e10⟩
  have he : e = 0 := he
  subst he
  refine ⟨_, rfl, ?_⟩
  obtain ⟨rb, cl, ca, th, fl, mp, ma, mg, mm, mw, ths, wts⟩ := r10
  cases e10
  have h10 : CR w10 own10 _ A2 := a2 ▸ h10
  refine (c15 h10 safe2 0).mono ?_
  rintro en w13 ⟨e, rfl, S', hd, own13, r13, h13, f13, e13⟩
  obtain ⟨rfl, rfl⟩ := a3 hd
  refine ⟨_, rfl, ?_⟩
  obtain ⟨rb, cl, ca, th, fl, mp, ma, mg, mm, mw, ths, wts⟩ := r13
  cases e13
  refine (c15 h13 safe3 0).mono ?_
  rintro en w16 ⟨e, rfl, S', hd, own16, r16, h16, f16, e16⟩
  obtain ⟨rfl, rfl⟩ := a4 hd
  refine ⟨_, rfl, ?_⟩
  obtain ⟨rb, cl, ca, th, fl, mp, ma, mg, mm, mw, ths, wts⟩ := r16
  cases e16
  have F : Fr (fun _ => none) own16 w w16 := (((f3.trans f7).trans f10).trans f13).trans f16
  have hx : Ext w w16 := ⟨F.os, F.tape, F.output, F.size, fun k hk => F.block k hk rfl⟩
  refine BoolK.mk (fun _ => BoolK.mk (fun _ => BoolK.mk (fun _ => BoolK.mk (fun _ => BoolK.mk (fun _ => ?_) (fun t => by cases t)) (fun t => by cases t)) (fun t => by cases t)) (fun t => by cases t)) (fun t => by cases t)
  refine (c12 h16 1 1).mono ?_
  rintro en w19 ⟨x, rfl, rfl, rfl⟩
  refine ⟨_, rfl, BoolK.mk (fun _ => ?_) (fun t => absurd (t.symm.trans (by decide : (A4.prox (1, 1) == 65536) = true)) (by decide))⟩
  refine (c13 h16 lim4 1).mono ?_
  rintro en w22 ⟨s, rfl, hs, hx22⟩
  exact ⟨_, rfl, live1 (by decide) rfl rfl rfl hs, hx.trans hx22⟩
end Go.Proofs.YtgggbmikmmljcaaGreat
