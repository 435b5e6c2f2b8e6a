/- A part of the proof: plain forms of functions and laws about them. -/
import Derived.Test.YtgggbmikmmljcaaCnilB
namespace Go.Proofs.Ytgggbmikmmljcaa
open Go Go.V Go.Proofs
open Go.RowKit (Below)
section
variable {w w' w2 : World} {own own' : OwnM Role} {r : Raw} {S : CS}
theorem madeInts {b n e : Nat} (hB : Blk w b (madeCells #[.int .i64 0] (n * 1)) e) (hn : n ≤ maxLen) : OwnR 0 e 1 eI w (some ⟨b, 0, none⟩) n n (List.replicate n (0 : Int)) := by
  have hl : (madeCells #[Value.int .i64 0] (n * 1)).toList = List.replicate n (.int .i64 0) := by rw [Nat.mul_one, toList_madeCells_one]
  have hf : (List.replicate n (0 : Int)).flatMap eI = List.replicate n (.int .i64 0) := by
    clear hl hn hB
    induction n with
    | zero => rfl
    | succ n ih => rw [List.replicate_succ, List.flatMap_cons, ih, List.replicate_succ]; rfl
  refine ⟨by simp, ?_⟩
  rw [List.length_replicate]
  refine ⟨by rw [hf]; simp, .inr ⟨b, n, _, rfl, Nat.zero_le _, hB, Nat.le_refl _, hn, ?_, ?_⟩⟩
  · have := congrArg List.length hl; simpa using this
  · rw [hl, hf, List.take_of_length_le (by simp)]
def CS.zero (sites term slack : Int) : CS := ⟨term, slack, List.replicate sites.toNat 0, [], [], fun _ => 0, fun _ => false, fun _ => false, fun _ => false, fun _ => [], []⟩
def argsOk (sites term slack : Int) : Prop := 1 ≤ sites ∧ sites ≤ 5 ∧ 1 ≤ term ∧ term ≤ 100 ∧ 1 ≤ slack ∧ slack ≤ 100
theorem c53 (sites term slack : Int) : Calls Try.prog 53 #[.int .i64 sites, .int .i64 term, .int .i64 slack] w fun en w' => ∃ o e, en = .returned (.tuple #[.pointer o, .int .i64 e]) ∧
    ((¬ argsOk sites term slack ∧ o = none ∧ e = 2 ∧ w' = w) ∨ (argsOk sites term slack ∧ e = 0 ∧ ∃ own r, o = some ⟨r.b, 0, none⟩ ∧ CR w' own r (CS.zero sites term slack) ∧ Fr (fun _ => none) own w w')) := by
  refine calls53 _ _ _ _ w ?_
  have bad : ¬ argsOk sites term slack → ((¬ argsOk sites term slack ∧ (none : Option Addr) = none ∧ (2 : Int) = 2 ∧ w = w) ∨ (argsOk sites term slack ∧ (2 : Int) = 0 ∧ ∃ own r, (none : Option Addr) = some ⟨r.b, 0, none⟩ ∧ CR w own r (CS.zero sites term slack) ∧ Fr (fun _ => none) own w w)) := fun h => .inl ⟨h, rfl, rfl, rfl⟩
  refine BoolK.mk (fun t => bad fun k => by have := of_decide_eq_true t; have := k.1; omega) (fun t1 => ?_)
  refine BoolK.mk (fun t => bad fun k => by have := of_decide_eq_true t; have := k.2.1; omega) (fun t2 => ?_)
  refine BoolK.mk (fun t => bad fun k => by have := of_decide_eq_true t; have := k.2.2.1; omega) (fun t3 => ?_)
  refine BoolK.mk (fun t => bad fun k => by have := of_decide_eq_true t; have := k.2.2.2.1; omega) (fun t4 => ?_)
  refine BoolK.mk (fun t => bad fun k => by have := of_decide_eq_true t; have := k.2.2.2.2.1; omega) (fun t5 => ?_)
  refine BoolK.mk (fun t => bad fun k => by have := of_decide_eq_true t; have := k.2.2.2.2.2; omega) (fun t6 => ?_)
  have t1 := of_decide_eq_false t1; have t2 := of_decide_eq_false t2; have t3 := of_decide_eq_false t3; have t4 := of_decide_eq_false t4; have t5 := of_decide_eq_false t5; have t6 := of_decide_eq_false t6
  refine ⟨⟨by omega, by omega, by omega, by omega⟩, AllocK.mk fun b w5 hb hB hx5 => ?_⟩
  obtain ⟨w7, q1, m1, x1⟩ := MapF.make (P := Try.prog) (t := 45) (enc := eK2) eK 0 w5
  obtain ⟨w9, q2, m2, x2⟩ := MapF.make (P := Try.prog) (t := 46) (enc := eK2) eB false w7
  obtain ⟨w11, q3, m3, x3⟩ := MapF.make (P := Try.prog) (t := 46) (enc := eK2) eB false w9
  obtain ⟨w13, q4, m4, x4⟩ := MapF.make (P := Try.prog) (t := 46) (enc := eK2) eB false w11
  obtain ⟨w15, q5, m5, x5⟩ := MapF.make (P := Try.prog) (t := 47) (enc := eK2) slv (none, 0, 0) w13
  refine ⟨_, w7, q1, _, w9, q2, _, w11, q3, _, w13, q4, _, w15, q5, AllocK.mk fun b16 w17 hb16 hB16 hx17 => .inr ⟨⟨by omega, by omega, by omega, by omega, by omega, by omega⟩, rfl, ?_⟩⟩
  have l0 := hB.lt; have l1 := m1.lt; have l2 := m2.lt; have l3 := m3.lt; have l4 := m4.lt; have l5 := m5.lt; have l6 := hB16.lt
  have s17 := hx17.size; have s5 := hx5.size
  let own : OwnM Role := fun k => if k = b then some .clocks else if k = w5.heap.size then some .prox else if k = w7.heap.size then some .asked else if k = w9.heap.size then some .gone else if k = w11.heap.size then some .more else if k = w13.heap.size then some .waits else if k = b16 then some .st else none
  let r : Raw := ⟨b16, (some ⟨b, 0, none⟩, sites.toNat, sites.toNat), (none, 0, 0), (none, 0, 0), (none, 0, 0), w5.heap.size, w7.heap.size, w9.heap.size, w11.heap.size, w13.heap.size, [], fun _ => (none, 0, 0)⟩
  refine ⟨own, r, rfl, ?_, ?_⟩
  · have rb : r.b = b16 := rfl
    exact {
      top := fun k hk => by
        show (if k = b then _ else _) = _
        rw [if_neg (by omega), if_neg (by omega), if_neg (by omega), if_neg (by omega), if_neg (by omega), if_neg (by omega), if_neg (by omega)]
      blk := hB16
      ob := by
        show (if b16 = b then some Role.clocks else if b16 = w5.heap.size then some .prox else if b16 = w7.heap.size then some .asked else if b16 = w9.heap.size then some .gone else if b16 = w11.heap.size then some .more else if b16 = w13.heap.size then some .waits else if b16 = b16 then some .st else none) = _
        rw [if_neg (by omega), if_neg (by omega), if_neg (by omega), if_neg (by omega), if_neg (by omega), if_neg (by omega), if_pos rfl]
      clocks := ⟨(madeInts (((((((hB.ext x1).ext x2).ext x3).ext x4).ext x5)).ext hx17) (Nat.le_trans (show sites.toNat ≤ 5 by omega) (by decide))), fun k hk => by
        cases hk; show (if b = b then _ else _) = _; rw [if_pos rfl]⟩
      calls := RowR.nil _ _ _ _ _ _
      things := RowR.nil _ _ _ _ _ _
      thl := rfl
      ths := fun i x t hx => by cases hx
      prox := ((((m1.ext x2).ext x3).ext x4).ext x5).ext hx17
      op := by
        show (if w5.heap.size = b then some Role.clocks else if w5.heap.size = w5.heap.size then some .prox else if w5.heap.size = w7.heap.size then some .asked else if w5.heap.size = w9.heap.size then some .gone else if w5.heap.size = w11.heap.size then some .more else if w5.heap.size = w13.heap.size then some .waits else if w5.heap.size = b16 then some .st else none) = _
        rw [if_neg (by omega), if_pos rfl]
      asked := (((m2.ext x3).ext x4).ext x5).ext hx17
      oa := by
        show (if w7.heap.size = b then some Role.clocks else if w7.heap.size = w5.heap.size then some .prox else if w7.heap.size = w7.heap.size then some .asked else if w7.heap.size = w9.heap.size then some .gone else if w7.heap.size = w11.heap.size then some .more else if w7.heap.size = w13.heap.size then some .waits else if w7.heap.size = b16 then some .st else none) = _
        rw [if_neg (by omega), if_neg (by omega), if_pos rfl]
      gone := ((m3.ext x4).ext x5).ext hx17
      og := by
        show (if w9.heap.size = b then some Role.clocks else if w9.heap.size = w5.heap.size then some .prox else if w9.heap.size = w7.heap.size then some .asked else if w9.heap.size = w9.heap.size then some .gone else if w9.heap.size = w11.heap.size then some .more else if w9.heap.size = w13.heap.size then some .waits else if w9.heap.size = b16 then some .st else none) = _
        rw [if_neg (by omega), if_neg (by omega), if_neg (by omega), if_pos rfl]
      more := (m4.ext x5).ext hx17
      om := by
        show (if w11.heap.size = b then some Role.clocks else if w11.heap.size = w5.heap.size then some .prox else if w11.heap.size = w7.heap.size then some .asked else if w11.heap.size = w9.heap.size then some .gone else if w11.heap.size = w11.heap.size then some .more else if w11.heap.size = w13.heap.size then some .waits else if w11.heap.size = b16 then some .st else none) = _
        rw [if_neg (by omega), if_neg (by omega), if_neg (by omega), if_neg (by omega), if_pos rfl]
      waits := m5.ext hx17
      ow := by
        show (if w13.heap.size = b then some Role.clocks else if w13.heap.size = w5.heap.size then some .prox else if w13.heap.size = w7.heap.size then some .asked else if w13.heap.size = w9.heap.size then some .gone else if w13.heap.size = w11.heap.size then some .more else if w13.heap.size = w13.heap.size then some .waits else if w13.heap.size = b16 then some .st else none) = _
        rw [if_neg (by omega), if_neg (by omega), if_neg (by omega), if_neg (by omega), if_neg (by omega), if_pos rfl]
      wts := fun _ => RowT.nil _ _ _ _
      fly := RowR.nil _ _ _ _ _ _ }
  · have hx : Ext w w17 := ((((hx5.trans x1).trans x2).trans x3).trans x4).trans (x5.trans hx17)
    refine ⟨hx.os, hx.tape, hx.output, hx.size, fun k hk _ => hx.block k hk, fun k hk _ => ?_⟩
    show (if k = b then _ else _) = _
    rw [if_neg (by omega), if_neg (by omega), if_neg (by omega), if_neg (by omega), if_neg (by omega), if_neg (by omega), if_neg (by omega)]

def CS.isS (S : CS) (x : Int) : Prop := 0 ≤ x ∧ x < S.clocks.length
instance (S : CS) (x : Int) : Decidable (S.isS x) := inferInstanceAs (Decidable (_ ∧ _))
def CS.make (S : CS) (site : Int) : CS := { S with things := S.things ++ [⟨site, true, 0, 0, false, false, []⟩] }
def CS.makeE (S : CS) (site : Int) : CS := if S.isS site then S.make site else S
set_option maxRecDepth 100000 in
theorem c4 (h : CR w own r S) (L : Lim S) (site : Int) : Calls Try.prog 4 #[cp r, .int .i64 site] w fun en w' => ∃ n e, en = .returned (.tuple #[.int .i64 n, .int .i64 e]) ∧
    ((n, e) = (if S.isS site then ((S.things.length : Int) + 1, 0) else (0, 2)) ∧ PostC own r w (S.makeE site) w') := by
  refine calls4 _ _ _ w ?_
  refine (c22 h).mono ?_
  rintro en w4 ⟨p, rfl, rfl, rfl⟩
  refine ⟨_, rfl, BoolK.mk (fun t => by cases t) (fun _ => ?_)⟩
  refine (c23 h site).mono ?_
  rintro en w7 ⟨p, rfl, rfl, rfl⟩
  refine ⟨_, rfl, BoolK.mk (fun t => ?_) (fun t => ?_)⟩
  · have t : ¬ S.isS site := fun hh => by rw [decide_eq_true (show 0 ≤ site ∧ site < (S.clocks.length : Int) from hh)] at t; cases t
    exact ⟨by rw [if_neg t], by rw [CS.makeE, if_neg t]; exact PostC.mk h (Fr.refl _ _) rfl⟩
  · have t : S.isS site := by
      refine Decidable.byContradiction fun hh => ?_
      rw [decide_eq_false (show ¬ (0 ≤ site ∧ site < (S.clocks.length : Int)) from hh)] at t; cases t
    have hl := h.thl2
    have Lt := L.th
    refine ⟨_, _, _, h.cell 5 rfl, ?_⟩
    refine RowR.push ⟨site, true, 0, 0, false, false, (none, 0, 0)⟩ sltT h.things eT_len eT_one (by rw [h.thl]; omega) rfl fun s' w12 hr u => ?_
    refine setBlk (h.blk.upd h.ob u (by simp)) ((u.same _ h.blk.lt).trans h.ob) 5 _ (by simp) fun w14 hb14 u2 => ?_
    have h14 := h.newThing (t := ⟨site, true, 0, 0, false, false, []⟩) u hr u2 (by simpa [slv] using hb14) ⟨⟨rfl, rfl, rfl, rfl, rfl, rfl⟩, RowR.nil _ _ _ _ _ _⟩
    refine ⟨_, _, _, h14.cell 5 rfl, ?_, ?_⟩
    · rw [if_pos t, hr.len]; simp [h.thl]
    · rw [CS.makeE, if_pos t]; exact PostC.mk h14 (u.fr.trans u2.fr) rfl

def CS.askE (S : CS) (site x : Int) : Int := if usableE S x [site] = 0 then (if S.gone (site, x) then 200 else 0) else usableE S x [site]
def CS.askS (S : CS) (site x : Int) : CS :=
  if usableE S x [site] = 0 ∧ S.gone (site, x) = false ∧ site ≠ (S.th x).owner ∧ S.prox (site, x) = 0 ∧ S.asked (site, x) = false then
    ({ S with asked := upd S.asked (site, x) true }).send ⟨site, (S.th x).owner, kAsk, x, 0⟩ else S
theorem usable_isT {x : Int} {l : List Int} (h : usableE S x l = 0) : S.isT x ∧ ∀ s ∈ l, S.isS s := by
  simp only [usableE] at h
  split at h
  · rename_i h1
    split at h
    · rename_i h2
      refine ⟨h2, fun s hs => ?_⟩
      rw [List.all_eq_true] at h1
      exact of_decide_eq_true (h1 s hs)
    · omega
  · omega
theorem boxInts {v : Int} {b t : Nat} (hB : Blk w b #[.int .i64 v] t) : Ints w (some ⟨b, 0, none⟩) 1 [v] := ⟨rfl, .inr ⟨b, 0, rfl, fun i x hi => by
  cases i with
  | zero => simp at hi; subst hi; show w.cell? _ = _; rw [hB.cell]; rfl
  | succ i => simp at hi⟩⟩
theorem boxInts2 {v1 v2 : Int} {b t : Nat} (hB : Blk w b #[.int .i64 v1, .int .i64 v2] t) : Ints w (some ⟨b, 0, none⟩) 2 [v1, v2] := ⟨rfl, .inr ⟨b, 0, rfl, fun i x hi => by
  match i with
  | 0 => simp at hi; subst hi; show w.cell? _ = _; rw [hB.cell]; rfl
  | 1 => simp at hi; subst hi; show w.cell? _ = _; rw [hB.cell]; rfl
  | i + 2 => simp at hi⟩⟩
theorem c7 (h : CR w own r S) (L : Lim S) (site x : Int) : Calls Try.prog 7 #[cp r, .int .i64 site, .int .i64 x] w fun en w' => ∃ e, en = .returned (.int .i64 e) ∧ (e = S.askE site x ∧ PostC own r w (S.askS site x) w') := by
  refine calls7 _ _ _ _ w ?_
  refine AllocK.mk fun b w5 hb hB hx5 => ?_
  have h5 := h.ext hx5
  refine (c24 h5 x _ 1 1 [site] (boxInts hB) (by simp)).mono ?_
  rintro en w7 ⟨e, rfl, rfl, rfl⟩
  have stay : ∀ w9, CR w9 own r S → Ext w w9 → ¬ (usableE S x [site] = 0 ∧ S.gone (site, x) = false ∧ site ≠ (S.th x).owner ∧ S.prox (site, x) = 0 ∧ S.asked (site, x) = false) → PostC own r w (S.askS site x) w9 := fun w9 h9 hx9 hn => by
    rw [CS.askS, if_neg hn]; exact PostC.mk h9 (Fr.of_ext own hx9) rfl
  refine ⟨_, rfl, BoolK.mk (fun t => ?_) (fun t => ?_)⟩
  · have t : usableE S x [site] ≠ 0 := by simpa using t
    exact ⟨by rw [CS.askE, if_neg t], stay _ h5 hx5 fun k => t k.1⟩
  have t : usableE S x [site] = 0 := by simpa using t
  obtain ⟨hT, hS⟩ := usable_isT t
  refine KB.new2 h5 (site, x) fun b9 w12 h12 kb hx12 => DrewK.mk fun w13 hx13 => ?_
  have h13 := h12.ext hx13
  have kb := kb.ext hx13
  have hx : Ext w w13 := (hx5.trans hx12).trans hx13
  refine ⟨_, h13.cell 8 rfl, _, kb.c0, _, kb.c1, _, _, h13.lkGone (site, x), Cel.refl _, BoolK.mk (fun tg => ?_) (fun tg => ?_)⟩
  · exact ⟨by rw [CS.askE, if_pos t, if_pos tg], stay _ h13 hx fun k => by rw [k.2.1] at tg; cases tg⟩
  have hE : (0 : Int) = S.askE site x := by rw [CS.askE, if_pos t, if_neg (by rw [tg]; simp)]
  refine (cAt h13 hT L.th).mono ?_
  rintro en w21 ⟨o, rfl, rfl, g, s, rfl, hg, hgo, hc, hr⟩
  refine ⟨_, rfl, _, (hc 0 (by omega)).trans rfl, ?_⟩
  refine ⟨fun p w' => p = decide (site ≠ (S.th x).owner ∧ S.prox (site, x) = 0 ∧ S.asked (site, x) = false) ∧ CR w' own r S ∧ KB own w' b9 (site, x) ∧ Ext w w', ?_, DrewK.mk fun w36 hx36 => ?_⟩
  · rintro w26 p ⟨rfl, h26, kb, hx26⟩
    refine BoolK.mk (fun tp => ?_) (fun tp => ?_)
    · have tp := of_decide_eq_true tp
      refine DrewK.mk fun w28 hx28 => ?_
      have h28 := h26.ext hx28
      have kb := kb.ext hx28
      obtain ⟨w33, q1, h33, u⟩ := h28.putAsked (site, x) true
      refine ⟨_, h28.cell 7 rfl, _, kb.c0, _, kb.c1, w33, q1, ?_⟩
      refine (c33 h33 _ _ _ _ _ L.fly).mono ?_
      rintro en w34 ⟨rfl, own', s', h34, fr⟩
      refine ⟨rfl, hE, ?_⟩
      rw [CS.askS, if_pos ⟨t, tg, tp⟩]
      exact PostC.mk h34 (((Fr.of_ext own (hx26.trans hx28)).trans u.fr).trans fr) rfl
    · have tp := of_decide_eq_false tp
      exact ⟨hE, stay _ h26 hx26 fun k => tp k.2.2⟩
  · have h36 := h13.ext hx36
    have kb := kb.ext hx36
    have hx36 : Ext w w36 := hx.trans hx36
    refine BoolK.mk (fun to => ?_) (fun to => ?_)
    · have to : site ≠ (S.th x).owner := by simpa using to
      refine ⟨_, h36.cell 6 rfl, _, kb.c0, _, kb.c1, _, _, h36.lkProx (site, x), Cel.refl _, BoolK.mk (fun t0 => ?_) (fun t0 => ?_)⟩
      · have t0 : S.prox (site, x) = 0 := beq_iff_eq.1 t0
        have fin : (!S.asked (site, x)) = decide (site ≠ (S.th x).owner ∧ S.prox (site, x) = 0 ∧ S.asked (site, x) = false) := by
          cases S.asked (site, x) <;> simp [to, t0]
        exact ⟨⟨_, h36.cell 7 rfl, Cel.refl _, _, kb.c0, _, kb.c1, Cel.refl _, _, _, h36.lkAsked (site, x), Cel.refl _, fin, h36, kb, hx36⟩,
          ⟨_, kb.c0, _, kb.c1, Cel.refl _, _, h36.cell 7 rfl, Cel.refl _, _, _, h36.lkAsked (site, x), Cel.refl _, fin, h36, kb, hx36⟩⟩
      · have t0 : S.prox (site, x) ≠ 0 := beq_eq_false_iff_ne.1 t0
        have fin : false = decide (site ≠ (S.th x).owner ∧ S.prox (site, x) = 0 ∧ S.asked (site, x) = false) := by simp [t0]
        exact ⟨⟨fin, h36, kb, hx36⟩, ⟨fin, h36, kb, hx36⟩⟩
    · have to : site = (S.th x).owner := by simpa using to
      have fin : false = decide (site ≠ (S.th x).owner ∧ S.prox (site, x) = 0 ∧ S.asked (site, x) = false) := by simp [to]
      exact ⟨⟨fin, h36, kb, hx36⟩, ⟨fin, h36, kb, hx36⟩⟩
end
end Go.Proofs.Ytgggbmikmmljcaa

namespace Go.Proofs.Ytgggbmikmmljcaa
open Go Go.V Go.Proofs
open Go.RowKit (Below)
/-! (*manystrand/count.Count).Deliver -/
def N12 (o1 : Option Addr) (x2 : Int) (K : Int → World → Prop) (w : World) : Prop :=
  Calls Try.prog 41 #[(.pointer o1), (.int .i64 x2)] w fun e13 w12 =>
  ∃ (x3 : Int), ∃ (x4 : Int), ∃ (s5 : ByteArray), ∃ (x6 : Int), ∃ (x7 : Int), ∃ (x8 : Int), ∃ (x9 : Int), ∃ (a10 : Option Addr), ∃ (l10 : Nat), ∃ (c10 : Nat), ∃ (x11 : Int), e13 = .returned (.tuple #[(.agg #[(.int .i64 x3), (.int .i64 x4), (.string s5), (.int .i64 x6), (.int .i64 x7), (.int .i64 x8), (.int .i64 x9), (.slice a10 l10 c10)]), (.int .i64 x11)]) ∧
  (AllocK w12 (#[.int .i64 0, .int .i64 0, .string ⟨#[]⟩, .int .i64 0, .int .i64 0, .int .i64 0, .int .i64 0, .slice none 0 0]) 74 fun b14 w15 =>
    SetK w15 (b14.add 0) (.int .i64 x3) fun w16 =>
    SetK w16 (b14.add 1) (.int .i64 x4) fun w17 =>
    SetK w17 (b14.add 2) (.string s5) fun w18 =>
    SetK w18 (b14.add 3) (.int .i64 x6) fun w19 =>
    SetK w19 (b14.add 4) (.int .i64 x7) fun w20 =>
    SetK w20 (b14.add 5) (.int .i64 x8) fun w21 =>
    SetK w21 (b14.add 6) (.int .i64 x9) fun w22 =>
    SetK w22 (b14.add 7) (.slice a10 l10 c10) fun w23 =>
    BoolK ((x11 : Int) != 0)
    (K x11 w23)
    (∃ (x24 : Int), w23.cell? (b14.add 3) = some (.int .i64 x24) ∧
      (Calls Try.prog 25 #[(.pointer o1), (.int .i64 x24)] w23 fun e27 w26 =>
        ∃ (o25 : Option Addr), e27 = .returned (.pointer o25) ∧
        (∃ (x28 : Int), w26.cell? (b14.add 1) = some (.int .i64 x28) ∧
          (∃ (x29 : Int), w26.cell? (b14.add 3) = some (.int .i64 x29) ∧
            (AllocK w26 (#[.int .i64 0, .int .i64 0]) 61 fun b30 w31 =>
              SetK w31 (b30.add 0) (.int .i64 x28) fun w32 =>
              SetK w32 (b30.add 1) (.int .i64 x29) fun w33 =>
              ∃ (s34 : ByteArray), w33.cell? (b14.add 2) = some (.string s34) ∧
              (∃ (J35 : Bool → World → Prop),
                (∀ (w36 : World) (p37 : Bool), J35 p37 w36 →
                  BoolK p37
                  (∃ (x38 : Int), w36.cell? (b14.add 3) = some (.int .i64 x38) ∧
                    (Calls Try.prog 17 #[(.pointer o1), (.int .i64 x38)] w36 fun e41 w40 =>
                      ∃ (s39 : ByteArray), e41 = .returned (.string s39) ∧
                      (BoolK (!((s39 : ByteArray).toList == ((⟨#[108, 105, 118, 101]⟩ : ByteArray) : ByteArray).toList))
                        (∃ (x42 : Int), w40.cell? (b14.add 1) = some (.int .i64 x42) ∧
                          (∃ (x43 : Int), w40.cell? b14 = some (.int .i64 x43) ∧
                            (∃ (x44 : Int), w40.cell? (b14.add 3) = some (.int .i64 x44) ∧
                              (Calls Try.prog 33 #[(.pointer o1), (.int .i64 x42), (.int .i64 x43), (.string (⟨#[103, 111, 110, 101]⟩ : ByteArray)), (.int .i64 x44), (.int .i64 0)] w40 fun e46 w45 =>
                                e46 = .returned (.tuple #[]) ∧
                                (K 0 w45)))))
                        (∃ (x47 : Int), w40.cell? b14 = some (.int .i64 x47) ∧
                          (∃ (x48 : Int), w40.cell? (b14.add 3) = some (.int .i64 x48) ∧
                            (Calls Try.prog 34 #[(.pointer o1), (.int .i64 x47), (.string (⟨#[103, 105, 118, 101]⟩ : ByteArray)), (.int .i64 x48)] w40 fun e50 w49 =>
                              e50 = .returned (.tuple #[]) ∧
                              (K 0 w49)))))))
                  (BoolK ((s34 : ByteArray).toList == ((⟨#[103, 105, 118, 101]⟩ : ByteArray) : ByteArray).toList)
                    (DrewK w36 fun w51 =>
                      AddrK o1 fun b52 =>
                      ∃ (m53 : Option Nat), w51.cell? (b52.add 7) = some (.map m53) ∧
                      (∃ (x54 : Int), w51.cell? (b30.add 0) = some (.int .i64 x54) ∧
                        (∃ (x55 : Int), w51.cell? (b30.add 1) = some (.int .i64 x55) ∧
                          (∃ (w56 : World), Sem.run Try.prog (Builtin.delete_ #[46, 61] 0 #[(.map m53), (.agg #[(.int .i64 x54), (.int .i64 x55)])]) w51 = .ok (.tuple #[]) w56 ∧
                            (∃ (J57 : World → Prop),
                              (∀ (w58 : World), J57 w58 →
                                ∃ (x59 : Int), w58.cell? (b30.add 0) = some (.int .i64 x59) ∧
                                (∃ (x60 : Int), w58.cell? (b30.add 1) = some (.int .i64 x60) ∧
                                  (Calls Try.prog 42 #[(.pointer o1), (.agg #[(.int .i64 x59), (.int .i64 x60)])] w58 fun e62 w61 =>
                                    e62 = .returned (.tuple #[]) ∧
                                    (K 0 w61)))) ∧
                              (DrewK w56 fun w63 =>
                                AddrK o1 fun b64 =>
                                ∃ (m65 : Option Nat), w63.cell? (b64.add 6) = some (.map m65) ∧
                                (∃ (x66 : Int), w63.cell? (b30.add 0) = some (.int .i64 x66) ∧
                                  (∃ (x67 : Int), w63.cell? (b30.add 1) = some (.int .i64 x67) ∧
                                    (∃ (x68 : Int), w63.cell? (b14.add 4) = some (.int .i64 x68) ∧
                                      ((∃ (x69 : Int), ∃ (w70 : World), Sem.run Try.prog (Instr.lookup 45 (.map m65) (.agg #[(.int .i64 x66), (.int .i64 x67)]) false) w63 = .ok (.int .i64 x69) w70 ∧
                                          (Cel w63 w70 ∧
                                            (∃ (x71 : Int), ∃ (x72 : Int), ∃ (w73 : World), Sem.run Try.prog (Instr.mapEntry 45 (.map m65) (.agg #[(.int .i64 x66), (.int .i64 x67)])) w70 = .ok (.tuple #[(.int .i64 x71), (.int .i64 x72)]) w73 ∧
                                              (Cel w63 w73 ∧
                                                (∃ (w74 : World), Sem.run Try.prog (Instr.entryStore 45 (.map m65) (.int .i64 x72) (.int .i64 (IntKind.wrap .i64 (x69 + x68)))) w73 = .ok () w74 ∧
                                                  (J57 w74)))))) ∧
                                        (∃ (x75 : Int), ∃ (x76 : Int), ∃ (w77 : World), Sem.run Try.prog (Instr.mapEntry 45 (.map m65) (.agg #[(.int .i64 x66), (.int .i64 x67)])) w63 = .ok (.tuple #[(.int .i64 x75), (.int .i64 x76)]) w77 ∧
                                          (Cel w63 w77 ∧
                                            (∃ (x78 : Int), ∃ (w79 : World), Sem.run Try.prog (Instr.lookup 45 (.map m65) (.agg #[(.int .i64 x66), (.int .i64 x67)]) false) w77 = .ok (.int .i64 x78) w79 ∧
                                              (Cel w63 w79 ∧
                                                (∃ (w80 : World), Sem.run Try.prog (Instr.entryStore 45 (.map m65) (.int .i64 x76) (.int .i64 (IntKind.wrap .i64 (x78 + x68)))) w79 = .ok () w80 ∧
                                                  (J57 w80))))))))))))))))
                    (BoolK ((s34 : ByteArray).toList == ((⟨#[112, 97, 115, 115]⟩ : ByteArray) : ByteArray).toList)
                      (DrewK w36 fun w81 =>
                        AddrK o1 fun b82 =>
                        ∃ (m83 : Option Nat), w81.cell? (b82.add 6) = some (.map m83) ∧
                        (∃ (x84 : Int), w81.cell? (b30.add 0) = some (.int .i64 x84) ∧
                          (∃ (x85 : Int), w81.cell? (b30.add 1) = some (.int .i64 x85) ∧
                            (∃ (x86 : Int), w81.cell? (b14.add 4) = some (.int .i64 x86) ∧
                              ((∃ (x87 : Int), ∃ (w88 : World), Sem.run Try.prog (Instr.lookup 45 (.map m83) (.agg #[(.int .i64 x84), (.int .i64 x85)]) false) w81 = .ok (.int .i64 x87) w88 ∧
                                  (Cel w81 w88 ∧
                                    (∃ (x89 : Int), ∃ (x90 : Int), ∃ (w91 : World), Sem.run Try.prog (Instr.mapEntry 45 (.map m83) (.agg #[(.int .i64 x84), (.int .i64 x85)])) w88 = .ok (.tuple #[(.int .i64 x89), (.int .i64 x90)]) w91 ∧
                                      (Cel w81 w91 ∧
                                        (∃ (w92 : World), Sem.run Try.prog (Instr.entryStore 45 (.map m83) (.int .i64 x90) (.int .i64 (IntKind.wrap .i64 (x87 + x86)))) w91 = .ok () w92 ∧
                                          (K 0 w92)))))) ∧
                                (∃ (x93 : Int), ∃ (x94 : Int), ∃ (w95 : World), Sem.run Try.prog (Instr.mapEntry 45 (.map m83) (.agg #[(.int .i64 x84), (.int .i64 x85)])) w81 = .ok (.tuple #[(.int .i64 x93), (.int .i64 x94)]) w95 ∧
                                  (Cel w81 w95 ∧
                                    (∃ (x96 : Int), ∃ (w97 : World), Sem.run Try.prog (Instr.lookup 45 (.map m83) (.agg #[(.int .i64 x84), (.int .i64 x85)]) false) w95 = .ok (.int .i64 x96) w97 ∧
                                      (Cel w81 w97 ∧
                                        (∃ (w98 : World), Sem.run Try.prog (Instr.entryStore 45 (.map m83) (.int .i64 x94) (.int .i64 (IntKind.wrap .i64 (x96 + x86)))) w97 = .ok () w98 ∧
                                          (K 0 w98)))))))))))
                      (BoolK ((s34 : ByteArray).toList == ((⟨#[98, 97, 99, 107]⟩ : ByteArray) : ByteArray).toList)
                        (DrewK w36 fun w99 =>
                          AddrK o25 fun b100 =>
                          ∃ (x101 : Int), w99.cell? (b100.add 2) = some (.int .i64 x101) ∧
                          (∃ (x102 : Int), w99.cell? (b14.add 4) = some (.int .i64 x102) ∧
                            (AddrK o25 fun b103 =>
                              SetK w99 (b103.add 2) (.int .i64 (IntKind.wrap .i64 (x101 - x102))) fun w104 =>
                              K 0 w104)))
                        (BoolK ((s34 : ByteArray).toList == ((⟨#[114, 101, 110, 101, 119]⟩ : ByteArray) : ByteArray).toList)
                          (AddrK o25 fun b105 =>
                            ∃ (p106 : Bool), w36.cell? (b105.add 4) = some (.bool p106) ∧
                            (BoolK p106
                              (∃ (x107 : Int), w36.cell? (b14.add 1) = some (.int .i64 x107) ∧
                                (∃ (x108 : Int), w36.cell? b14 = some (.int .i64 x108) ∧
                                  (∃ (x109 : Int), w36.cell? (b14.add 3) = some (.int .i64 x109) ∧
                                    (Calls Try.prog 33 #[(.pointer o1), (.int .i64 x107), (.int .i64 x108), (.string (⟨#[103, 111, 110, 101]⟩ : ByteArray)), (.int .i64 x109), (.int .i64 0)] w36 fun e111 w110 =>
                                      e111 = .returned (.tuple #[]) ∧
                                      (K 0 w110)))))
                              (DrewK w36 fun w112 =>
                                AddrK o1 fun b113 =>
                                ∃ (a114 : Option Addr) (l114 : Nat) (c114 : Nat), w112.cell? (b113.add 3) = some (.slice a114 l114 c114) ∧
                                (AddrK o25 fun b115 =>
                                  ∃ (x116 : Int), w112.cell? b115 = some (.int .i64 x116) ∧
                                  ((0 ≤ (x116 : Int) ∧ (x116 : Int) < (l114 : Nat)) ∧
                                    AddrK a114 fun b117 =>
                                    ∃ (x118 : Int), w112.cell? (b117.add ((x116 : Int).toNat * 1)) = some (.int .i64 x118) ∧
                                    (AddrK o25 fun b119 =>
                                      SetK w112 (b119.add 3) (.int .i64 x118) fun w120 =>
                                      K 0 w120))))))
                          (BoolK ((s34 : ByteArray).toList == ((⟨#[103, 111, 110, 101]⟩ : ByteArray) : ByteArray).toList)
                            (DrewK w36 fun w121 =>
                              AddrK o1 fun b122 =>
                              ∃ (m123 : Option Nat), w121.cell? (b122.add 7) = some (.map m123) ∧
                              (AddrK o1 fun b124 =>
                                ∃ (m125 : Option Nat), w121.cell? (b124.add 9) = some (.map m125) ∧
                                (AllocK w121 (#[(.map m123), (.map m125)]) 46 fun b126 w127 =>
                                  Cel w121 w127 ∧
                                  (∃ (I128 : Int → World → Prop) (μ129 : Int → World → Nat),
                                    (I128 0 w127 ∧ True) ∧
                                    ∀ (w130 : World) (x131 : Int), I128 x131 w130 →
                                    BoolK (decide ((x131 : Int) < (2 : Nat)))
                                    ((0 ≤ (x131 : Int) ∧ (x131 : Int) < (2 : Nat)) ∧
                                      ∃ (m132 : Option Nat), w130.cell? (b126.add ((x131 : Int).toNat * 1)) = some (.map m132) ∧
                                      (∃ (x133 : Int), w130.cell? (b30.add 0) = some (.int .i64 x133) ∧
                                        (∃ (x134 : Int), w130.cell? (b30.add 1) = some (.int .i64 x134) ∧
                                          (∃ (w135 : World), Sem.run Try.prog (Builtin.delete_ #[46, 61] 0 #[(.map m132), (.agg #[(.int .i64 x133), (.int .i64 x134)])]) w130 = .ok (.tuple #[]) w135 ∧
                                            (I128 (IntKind.wrap .i64 (x131 + 1)) w135 ∧ μ129 (IntKind.wrap .i64 (x131 + 1)) w135 < μ129 x131 w130)))))
                                    (DrewK w130 fun w136 =>
                                      AddrK o1 fun b137 =>
                                      ∃ (m138 : Option Nat), w136.cell? (b137.add 6) = some (.map m138) ∧
                                      (∃ (x139 : Int), w136.cell? (b30.add 0) = some (.int .i64 x139) ∧
                                        (∃ (x140 : Int), w136.cell? (b30.add 1) = some (.int .i64 x140) ∧
                                          (∃ (w141 : World), Sem.run Try.prog (Builtin.delete_ #[45, 61] 0 #[(.map m138), (.agg #[(.int .i64 x139), (.int .i64 x140)])]) w136 = .ok (.tuple #[]) w141 ∧
                                            (DrewK w141 fun w142 =>
                                              AddrK o1 fun b143 =>
                                              ∃ (m144 : Option Nat), w142.cell? (b143.add 10) = some (.map m144) ∧
                                              (∃ (x145 : Int), w142.cell? (b30.add 0) = some (.int .i64 x145) ∧
                                                (∃ (x146 : Int), w142.cell? (b30.add 1) = some (.int .i64 x146) ∧
                                                  (∃ (w147 : World), Sem.run Try.prog (Builtin.delete_ #[47, 61] 0 #[(.map m144), (.agg #[(.int .i64 x145), (.int .i64 x146)])]) w142 = .ok (.tuple #[]) w147 ∧
                                                    (DrewK w147 fun w148 =>
                                                      AddrK o1 fun b149 =>
                                                      ∃ (m150 : Option Nat), w148.cell? (b149.add 8) = some (.map m150) ∧
                                                      (∃ (x151 : Int), w148.cell? (b30.add 0) = some (.int .i64 x151) ∧
                                                        (∃ (x152 : Int), w148.cell? (b30.add 1) = some (.int .i64 x152) ∧
                                                          (∃ (w153 : World), Sem.run Try.prog (Instr.mapUpdate 46 (.map m150) (.agg #[(.int .i64 x151), (.int .i64 x152)]) (.bool true)) w148 = .ok () w153 ∧
                                                            (K 0 w153)))))))))))))))))
                            (K 0 w36))))))) ∧
                (BoolK ((s34 : ByteArray).toList == ((⟨#[97, 115, 107]⟩ : ByteArray) : ByteArray).toList)
                  (J35 ((s34 : ByteArray).toList == ((⟨#[97, 115, 107]⟩ : ByteArray) : ByteArray).toList) w33)
                  (J35 ((s34 : ByteArray).toList == ((⟨#[109, 111, 114, 101]⟩ : ByteArray) : ByteArray).toList) w33)))))))))
def ann12 : Ann := (.two .nil (.two .nil (.two (.two .nil (.two (.two .nil .nil) .nil)) (.two .nil (.two .nil (.two (.two .nil (.one (.cut [(31, (.one .bool))] [0, 5, 7, 8, 30] (.two .nil (.two .nil .nil)) (.two (.two (.two .nil (.two (.two .nil .nil) .nil)) .nil) (.two .nil (.two (.two (.any 5 (.take 0 (.take 1 (.take 2 (.take 3 (.take 4 .done)))))) (.cut [] [0, 8] (.any 11 (.take 0 (.take 1 (.take 2 (.take 3 (.take 4 (.take 6 (.take 7 (.both 5 (.take 8 (.one 9 (.take 10 .done))) (.one 9 (.take 10 (.one 5 (.take 8 .done))))))))))))) .nil)) (.two .nil (.two (.any 11 (.take 0 (.take 1 (.take 2 (.take 3 (.take 4 (.take 6 (.take 7 (.both 5 (.take 8 (.one 9 (.take 10 .done))) (.one 9 (.take 10 (.one 5 (.take 8 .done))))))))))))) (.two .nil (.two (.any 9 (.take 0 (.take 1 (.take 2 (.take 3 (.take 4 (.take 5 (.take 6 (.take 7 (.take 8 .done)))))))))) (.two .nil (.two (.two (.two .nil (.two (.two .nil .nil) .nil)) (.any 13 (.take 0 (.take 1 (.take 2 (.take 3 (.take 4 (.take 5 (.take 6 (.take 7 (.take 8 (.take 9 (.take 10 (.take 11 (.take 12 .done))))))))))))))) (.two .nil (.two (.two (.two (.any 11 (.take 0 (.take 1 (.take 2 (.take 3 (.take 4 (.take 5 (.take 6 (.take 7 (.take 10 (.one 8 (.take 9 .done)))))))))))) (.one (.loop [(137, (.one (.int .i64)))] [0, 8, 135, 136] (.two .nil (.two (.two .nil .nil) (.two (.one (.two .nil .nil)) .nil)))))) (.two (.any 5 (.take 0 (.take 1 (.take 2 (.take 3 (.take 4 .done)))))) (.two (.any 5 (.take 0 (.take 1 (.take 2 (.take 3 (.take 4 .done)))))) (.any 5 (.take 0 (.take 1 (.take 2 (.take 3 (.take 4 .done))))))))) .nil)))))))))))))) (.two .nil .nil)))))))
noncomputable def code12 : Code := match Try.f12.body with | some c => c | none => .skip
theorem wp12 (o1 : Option Addr) (x2 : Int) (K : Int → World → Prop) (w : World) : WP Try.prog tab code12 ann12 (fnQ tab Try.f12.results.toList [(.one (.int .i64))] K) (argE 0 [(.pointer o1), (.int .i64 x2)]) w = N12 o1 x2 K w := by kernel_rfl
theorem calls12 (o1 : Option Addr) (x2 : Int) (K : Int → World → Prop) (w : World) (h : N12 o1 x2 K w) : Calls Try.prog 12 #[(.pointer o1), (.int .i64 x2)] w fun en w' => ∃ (x154 : Int), en = .returned (.int .i64 x154) ∧ K x154 w' :=
  have e : (fun en w' => ExShs [(.one (.int .i64))] fun vs => en = .returned (tupled vs) ∧ ap [(.one (.int .i64))] K vs fun p => p w') = (fun (en : Ending) (w' : World) => ∃ (x154 : Int), en = .returned (.int .i64 x154) ∧ K x154 w') := by kernel_rfl
  e ▸ fn_sound tabOk mixed Try.func12 (by kernel_rfl : Try.f12.body = some code12) ann12 [(.pointer o1), (.int .i64 x2)] [(.one (.int .i64))] K w (by kernel_rfl) ((wp12 o1 x2 K w).symm ▸ h)
end Go.Proofs.Ytgggbmikmmljcaa

namespace Go.Proofs.Ytgggbmikmmljcaa
open Go Go.V Go.Proofs
open Go.RowKit (Below)

def isK (s k : ByteArray) : Bool := s.toList == k.toList
/-- the bounds within which the program's numbers stay numbers -/
structure Safe (S : CS) : Prop extends Lim2 S where
  own : ∀ t ∈ S.things, S.isS t.owner
  out : ∀ t ∈ S.things, 0 ≤ t.out ∧ t.out ≤ 2000000000000000000
  prox : ∀ k, 0 ≤ S.prox k ∧ S.prox k ≤ 2000000000000000000
  flyE : ∀ m ∈ S.fly, S.isT m.ent ∧ 0 ≤ m.n ∧ m.n ≤ 1000000000000000000
  wl : ∀ k, S.fly.length + (S.waits k).length ≤ 1000000
def CS.pay (S : CS) (k : Int × Int) (n : Int) : CS := { S with prox := upd S.prox k (S.prox k + n) }
def CS.unask (S : CS) (k : Int × Int) : CS := { S with asked := upd S.asked k false }
def CS.goneM (S : CS) (k : Int × Int) : CS := { S with asked := upd S.asked k false, more := upd S.more k false, prox := upd S.prox k 0, waits := upd S.waits k [], gone := upd S.gone k true }
def CS.backM (S : CS) (x n : Int) : CS := S.setTh (x - 1).toNat { S.th x with out := (S.th x).out - n }
def CS.renewM (S : CS) (x : Int) : CS := S.setTh (x - 1).toNat { S.th x with heard := S.clocks.getD (S.th x).owner.toNat 0 }
/-- what a message does: S (without it) becomes S' -/
def TakeOk (S : CS) (m : Msg) (S' : CS) : Prop :=
  if (isK m.kind kAsk || isK m.kind kMore) = true then ∃ s, StateOk S m.ent s ∧ (if isK s kLive = true then S' = S.give m.frm kGive m.ent (S.th m.ent) else S' = S.send ⟨m.to, m.frm, kGone, m.ent, 0⟩)
  else if isK m.kind kGive = true then S' = ((S.unask (m.to, m.ent)).pay (m.to, m.ent) m.n).again (m.to, m.ent)
  else if isK m.kind kPass = true then S' = S.pay (m.to, m.ent) m.n
  else if isK m.kind kBack = true then S' = S.backM m.ent m.n
  else if isK m.kind kRenew = true then (if (S.th m.ent).expired = true then S' = S.send ⟨m.to, m.frm, kGone, m.ent, 0⟩ else S' = S.renewM m.ent)
  else if isK m.kind kGone = true then S' = S.goneM (m.to, m.ent)
  else S' = S
section
variable {w w' w2 : World} {own own' : OwnM Role} {r : Raw} {S : CS}
theorem CS.th_mem {x : Int} (h : S.isT x) : S.th x ∈ S.things := by
  rw [CS.th_get (i := (x - 1).toNat) (by have := h.1; have := h.2; omega) rfl]; exact List.getElem_mem _
theorem CS.th_get? {x : Int} (h : S.isT x) : S.things[(x - 1).toNat]? = some (S.th x) := by
  have := h.1; have := h.2
  rw [List.getElem?_eq_getElem (by omega), CS.th_get (by omega) rfl]
/-- Deliver behind remove: the message in its box -/
theorem CS.take_len (S : CS) (k : Nat) : (S.take k).fly.length ≤ S.fly.length := by simp [CS.take, List.length_eraseIdx]; split <;> omega
theorem Safe.take (h : Safe S) (k : Nat) : Safe (S.take k) where
  th := h.th
  fly := Nat.le_trans (S.take_len k) h.fly
  on := h.on
  own := h.own
  out := h.out
  prox := h.prox
  flyE := fun m hm => h.flyE m (List.mem_of_mem_eraseIdx hm)
  wl := fun k2 => by have := h.wl k2; have := S.take_len k; show (S.take k).fly.length + (S.waits k2).length ≤ _; omega
def DelOk (S : CS) (k : Int) (e : Int) (S' : CS) : Prop := (¬ (0 ≤ k ∧ k < S.fly.length) ∧ e = 2 ∧ S' = S) ∨ (∃ m, 0 ≤ k ∧ S.fly[k.toNat]? = some m ∧ e = 0 ∧ TakeOk (S.take k.toNat) m S')
theorem c12 (h : CR w own r S) (G : Safe S) (k : Int) : Calls Try.prog 12 #[cp r, .int .i64 k] w fun en w' => ∃ e, en = .returned (.int .i64 e) ∧ (∃ S', DelOk S k e S' ∧ PostC own r w S' w') := by
  refine calls12 _ _ (fun e w' => ∃ S', DelOk S k e S' ∧ PostC own r w S' w') w ?_
  refine (c41 h G.toLim k).mono ?_
  rintro en w12 ⟨x3, x4, s5, x6, x7, x8, x9, a10, l10, c10, x11, rfl, hR⟩
  refine ⟨_, _, _, _, _, _, _, _, _, _, _, rfl, ?_⟩
  refine AllocK.mk fun b w4 hb hB hx4 => ?_
  rcases hR with ⟨h1, rfl, h2⟩ | ⟨m, h1, hm, rfl, rfl, rfl, rfl, rfl, rfl, own1, r1, g12, f12, e12⟩
  · refine Go.Proofs.Ytgggbmikmmljcaa.set8 hB rfl fun w23 _ but => BoolK.mk (fun _ => ?_) (fun t => by cases t)
    refine ⟨S, .inl ⟨h1, rfl, rfl⟩, ?_⟩
    have hx : Ext w w23 := but.below (h2.trans hx4) (by have := h2.size; omega)
    exact PostC.mk (h.ext hx) (Fr.of_ext own hx) rfl
  have g4 := g12.ext hx4
  refine CR.set8 g4 ⟨hB, g12.top b (by omega)⟩ rfl fun w23 g23 bx23 but => BoolK.mk (fun t => by cases t) (fun _ => ?_)
  have F23 : Fr own own1 w w23 := Fr.but (f12.trans (Fr.of_ext _ hx4)) but (by have := f12.size; omega)
  clear but hB hb
  have G' := G.take k.toNat
  have hmem : m ∈ S.fly := List.mem_of_getElem? hm
  obtain ⟨hT, hn0, hn1⟩ := G.flyE m hmem
  have hT : (S.take k.toNat).isT m.ent := hT
  have fin : ∀ {w33}, Ext w23 w33 → ∀ {S' w'}, TakeOk (S.take k.toNat) m S' → PostC own1 r1 w33 S' w' → ∃ S', DelOk S k 0 S' ∧ PostC own r w S' w' := by
    rintro w33 hx33 S' w' hTk ⟨own2, r2, q1, q2, q3⟩
    exact ⟨S', .inr ⟨m, h1, hm, rfl, hTk⟩, own2, r2, q1, (F23.trans (Fr.of_ext _ hx33)).trans q2, q3.trans e12⟩
  refine ⟨_, bx23.at_ 3 rfl, ?_⟩
  obtain ⟨rb, cl, ca, th, fl, mp, ma, mg, mm, mw, ths, wts⟩ := r1
  cases e12
  refine (cAt g23 hT G'.th).mono ?_
  rintro en w26 ⟨o, rfl, rfl, g, s, rfl, hg, hgo, hc, hr⟩
  refine ⟨_, rfl, _, bx23.at_ 1 rfl, _, bx23.at_ 3 rfl, ?_⟩
  refine KB.new2 g23 (m.to, m.ent) fun b30 w33 g33 kb hx33 => ?_
  have bx := bx23.ext hx33
  refine ⟨_, bx.at_ 2 rfl, ?_⟩
  have fin : ∀ {S' w'}, TakeOk (S.take k.toNat) m S' → PostC own1 _ w33 S' w' → ∃ S', DelOk S k 0 S' ∧ PostC own r w S' w' := fin hx33
  refine ⟨fun p w' => p = (isK m.kind kAsk || isK m.kind kMore) ∧ w' = w33, ?_, BoolK.mk (fun t => ⟨?_, rfl⟩) (fun t => ⟨?_, rfl⟩)⟩
  rotate_left
  · show isK m.kind kAsk = _; rw [show isK m.kind kAsk = true from t]; rfl
  · show isK m.kind kMore = _; rw [show isK m.kind kAsk = false from t]; rfl
  rintro w36 p ⟨rfl, rfl⟩
  refine BoolK.mk (fun tA => ?_) (fun tA => BoolK.mk (fun (tG : isK m.kind kGive = true) => ?_) (fun (tG : isK m.kind kGive = false) => BoolK.mk (fun (tP : isK m.kind kPass = true) => ?_) (fun (tP : isK m.kind kPass = false) =>
    BoolK.mk (fun (tB : isK m.kind kBack = true) => ?_) (fun (tB : isK m.kind kBack = false) => BoolK.mk (fun (tR : isK m.kind kRenew = true) => ?_) (fun (tR : isK m.kind kRenew = false) => BoolK.mk (fun (tO : isK m.kind kGone = true) => ?_) (fun (tO : isK m.kind kGone = false) => ?_))))))
  · -- ask, more
    refine ⟨_, bx.at_ 3 rfl, ?_⟩
    refine (c17 g33 G'.toLim2 m.ent).mono ?_
    rintro en w40 ⟨s, rfl, hs, hx40⟩
    have g40 := g33.ext hx40
    have bx := bx.ext hx40
    refine ⟨_, rfl, BoolK.mk (fun (t : (!isK s kLive) = true) => ?_) (fun (t : (!isK s kLive) = false) => ?_)⟩
    · have t : isK s kLive = false := by simpa using t
      refine ⟨_, bx.at_ 1 rfl, _, bx.at0 rfl, _, bx.at_ 3 rfl, ?_⟩
      refine (c33 g40 _ _ _ _ _ G'.fly).mono ?_
      rintro en w45 ⟨rfl, own', s', h45, fr⟩
      refine ⟨rfl, fin (by unfold TakeOk; rw [if_pos tA]; exact ⟨s, hs, by rw [if_neg (by rw [t]; simp)]⟩) ?_⟩
      exact PostC.mk h45 ((Fr.of_ext _ hx40).trans fr) rfl
    · have t : isK s kLive = true := by simpa using t
      refine ⟨_, bx.at0 rfl, _, bx.at_ 3 rfl, ?_⟩
      have ho := G'.own _ (CS.th_mem hT)
      have hu := G'.out _ (CS.th_mem hT)
      refine (c34 g40 m.frm kGive hT.1 hT.2 G'.th G'.fly (CS.th_get? hT) ho ⟨by omega, by omega⟩).mono ?_
      rintro en w45 ⟨rfl, own', r', h45, fr, er⟩
      refine ⟨rfl, fin (by unfold TakeOk; rw [if_pos tA]; exact ⟨s, hs, by rw [if_pos t]⟩) ?_⟩
      exact PostC.mk h45 ((Fr.of_ext _ hx40).trans fr) er
  · -- give
    refine DrewK.mk fun w51 hx51 => ?_
    have g51 := g33.ext hx51
    have kb := kb.ext hx51
    obtain ⟨w56, q1, g56, u1⟩ := g51.delAsked (m.to, m.ent)
    refine ⟨_, g51.cell 7 rfl, _, kb.c0, _, kb.c1, w56, q1, ?_⟩
    have bx := (bx.ext hx51).fr u1.fr
    have kb := kb.fr u1.fr
    have hp := G'.prox (m.to, m.ent)
    have ew : IntKind.wrap .i64 ((S.take k.toNat).prox (m.to, m.ent) + m.n) = (S.take k.toNat).prox (m.to, m.ent) + m.n := by rw [wrap_id] <;> omega
    refine ⟨fun w' => CR w' own1 ⟨r.b, cl, ca, th, fl, mp, ma, mg, mm, mw, ths, wts⟩ (((S.take k.toNat).unask (m.to, m.ent)).pay (m.to, m.ent) m.n) ∧ Fr own1 own1 w36 w' ∧ KB own1 w' b30 (m.to, m.ent), ?_, DrewK.mk fun w63 hx63 => ?_⟩
    · rintro w58 ⟨g58, f58, kb⟩
      refine ⟨_, kb.c0, _, kb.c1, ?_⟩
      have hwl := G'.wl (m.to, m.ent)
      refine (c42 g58 (m.to, m.ent) hT ⟨G'.th, G'.fly⟩ hwl (by show 0 ≤ upd _ _ _ _; rw [upd, if_pos rfl]; show 0 ≤ (S.take k.toNat).prox _ + _; omega) (by show upd _ _ _ _ ≤ _; rw [upd, if_pos rfl]; show (S.take k.toNat).prox _ + _ ≤ _; omega)).mono ?_
      rintro en w61 ⟨rfl, own2, r2, p1, p2, p3⟩
      refine ⟨rfl, fin (by unfold TakeOk; rw [if_neg (by rw [tA]; simp), if_pos tG]) ⟨own2, r2, p1, f58.trans p2, p3⟩⟩
    · have g63 := g56.ext hx63
      have kb := kb.ext hx63
      have bx := bx.ext hx63
      obtain ⟨x, st, w1, p1, p2, p3, w2, p4, p5, u2⟩ := g63.entProx (m.to, m.ent) ((S.take k.toNat).prox (m.to, m.ent) + m.n)
      have f : Fr own1 own1 w36 w2 := (((Fr.of_ext _ hx51).trans u1.fr).trans (Fr.of_ext _ hx63)).trans u2.fr
      have kb2 := kb.fr u2.fr
      refine ⟨_, g63.cell 6 rfl, _, kb.c0, _, kb.c1, _, bx.at_ 4 rfl, ⟨_, _, g63.lkProx (m.to, m.ent), Cel.refl _, _, _, _, p1, p2, w2, ?_, p5, f, kb2⟩, ⟨_, _, _, p1, p2, _, _, p3, p2, w2, ?_, p5, f, kb2⟩⟩
      · rw [← p4]; exact congrArg (fun v => Sem.run Try.prog (Instr.entryStore _ _ _ (.int .i64 v)) w1) ew
      · rw [← p4]; exact congrArg (fun v => Sem.run Try.prog (Instr.entryStore _ _ _ (.int .i64 v)) w1) ew
  · -- pass
    refine DrewK.mk fun w81 hx81 => ?_
    have g81 := g33.ext hx81
    have kb := kb.ext hx81
    have bx := bx.ext hx81
    have hp := G'.prox (m.to, m.ent)
    have ew : IntKind.wrap .i64 ((S.take k.toNat).prox (m.to, m.ent) + m.n) = (S.take k.toNat).prox (m.to, m.ent) + m.n := by rw [wrap_id] <;> omega
    obtain ⟨x, st, w1, p1, p2, p3, w2, p4, p5, u2⟩ := g81.entProx (m.to, m.ent) ((S.take k.toNat).prox (m.to, m.ent) + m.n)
    have done : ∃ S', DelOk S k 0 S' ∧ PostC own r w S' w2 := fin (by unfold TakeOk; rw [if_neg (by rw [tA]; simp), if_neg (by rw [tG]; simp), if_pos tP]; rfl) (PostC.mk (p5 : CR w2 own1 ⟨r.b, cl, ca, th, fl, mp, ma, mg, mm, mw, ths, wts⟩ ((S.take k.toNat).pay (m.to, m.ent) m.n)) ((Fr.of_ext _ hx81).trans u2.fr) rfl)
    refine ⟨_, g81.cell 6 rfl, _, kb.c0, _, kb.c1, _, bx.at_ 4 rfl, ⟨_, _, g81.lkProx (m.to, m.ent), Cel.refl _, _, _, _, p1, p2, w2, ?_, done⟩, ⟨_, _, _, p1, p2, _, _, p3, p2, w2, ?_, done⟩⟩
    · rw [← p4]; exact congrArg (fun v => Sem.run Try.prog (Instr.entryStore _ _ _ (.int .i64 v)) w1) ew
    · rw [← p4]; exact congrArg (fun v => Sem.run Try.prog (Instr.entryStore _ _ _ (.int .i64 v)) w1) ew
  · -- back
    have hu := G'.out _ (CS.th_mem hT)
    refine DrewK.mk fun w99 hx99 => ?_
    have g99 := g33.ext hx99
    have bx := bx.ext hx99
    have hx := hx33.trans hx99
    refine ⟨_, by rw [add_mk]; exact hx.cell ((hc 2 (by omega)).trans rfl), _, bx.at_ 4 rfl, ?_⟩
    show SetK w99 ((⟨g, (m.ent - 1).toNat * 7, none⟩ : Addr).add 2) _ _
    rw [add_mk]
    have ew : IntKind.wrap .i64 (((S.take k.toNat).th m.ent).out - m.n) = ((S.take k.toNat).th m.ent).out - m.n := by rw [wrap_id] <;> omega
    rw [ew]
    refine g99.setF hT hg 2 (by omega) { (S.take k.toNat).th m.ent with out := ((S.take k.toNat).th m.ent).out - m.n } (fun s => rfl) rfl fun w104 r' g104 er _ u => ?_
    exact fin (by unfold TakeOk; rw [if_neg (by rw [tA]; simp), if_neg (by rw [tG]; simp), if_neg (by rw [tP]; simp), if_pos tB]; rfl) (PostC.mk g104 ((Fr.of_ext _ hx99).trans u.fr) er)
  · -- renew
    refine ⟨_, by rw [add_mk]; exact hx33.cell ((hc 4 (by omega)).trans rfl), BoolK.mk (fun tE => ?_) (fun tE => ?_)⟩
    · refine ⟨_, bx.at_ 1 rfl, _, bx.at0 rfl, _, bx.at_ 3 rfl, ?_⟩
      refine (c33 g33 _ _ _ _ _ G'.fly).mono ?_
      rintro en w45 ⟨rfl, own', s', h45, fr⟩
      exact ⟨rfl, fin (by unfold TakeOk; rw [if_neg (by rw [tA]; simp), if_neg (by rw [tG]; simp), if_neg (by rw [tP]; simp), if_neg (by rw [tB]; simp), if_pos tR, if_pos tE]; rfl) (PostC.mk h45 fr rfl)⟩
    · refine DrewK.mk fun w112 hx112 => ?_
      have g112 := g33.ext hx112
      have hx := hx33.trans hx112
      obtain ⟨ho0, ho1⟩ := G'.own _ (CS.th_mem hT)
      have hlen := g112.clocks.len
      obtain ⟨gc, lc, cc, hsc, hoc, hgc, hcc⟩ := g112.clocks.at_ (i := ((S.take k.toNat).th m.ent).owner.toNat) eI_len (by omega)
      refine ⟨_, _, _, g112.cell 3 rfl, _, hx.cell ((hc 0 (by omega)).trans rfl), ⟨by omega, by omega⟩, ?_⟩
      simp only at hsc
      rw [hsc]
      refine ⟨(S.take k.toNat).clocks.getD ((S.take k.toNat).th m.ent).owner.toNat 0, ?_, ?_⟩
      · rw [add_mk, Nat.zero_add, getD_get (by omega)]; exact (hcc 0 (by omega)).trans rfl
      show SetK w112 ((⟨g, (m.ent - 1).toNat * 7, none⟩ : Addr).add 3) _ _
      rw [add_mk]
      refine g112.setF hT hg 3 (by omega) { (S.take k.toNat).th m.ent with heard := (S.take k.toNat).clocks.getD ((S.take k.toNat).th m.ent).owner.toNat 0 } (fun s => rfl) rfl fun w120 r' g120 er _ u => ?_
      exact fin (by unfold TakeOk; rw [if_neg (by rw [tA]; simp), if_neg (by rw [tG]; simp), if_neg (by rw [tP]; simp), if_neg (by rw [tB]; simp), if_pos tR, if_neg (by rw [tE]; simp)]; rfl) (PostC.mk g120 ((Fr.of_ext _ hx112).trans u.fr) er)
  · -- gone
    refine DrewK.mk fun w121 hx121 => ?_
    have g121 := g33.ext hx121
    have kb := kb.ext hx121
    refine ⟨_, g121.cell 7 rfl, _, g121.cell 9 rfl, ?_⟩
    refine BX.new g121 fun b126 w127 g127 bb hx127 => ⟨Below.cel hx127, ?_⟩
    have kb := kb.ext hx127
    let T := S.take k.toNat
    let T1 : CS := { T with asked := upd T.asked (m.to, m.ent) false }
    let T2 : CS := { T1 with more := upd T1.more (m.to, m.ent) false }
    refine ⟨fun i w' => ∃ S1, ((i = 0 ∧ S1 = T) ∨ (i = 1 ∧ S1 = T1) ∨ (i = 2 ∧ S1 = T2)) ∧ CR w' own1 _ S1 ∧ Fr own1 own1 w127 w' ∧ BX own1 w' b126 _ _ ∧ KB own1 w' b30 (m.to, m.ent), fun i _ => 3 - i.toNat, ⟨⟨T, .inl ⟨rfl, rfl⟩, g127, Fr.refl _ _, bb, kb⟩, trivial⟩, ?_⟩
    rintro w130 i ⟨S1, hcase, g130, f130, bb, kb⟩
    refine BoolK.mk (fun ti => ?_) (fun ti => ?_)
    · have ti := of_decide_eq_true ti
      rcases hcase with ⟨rfl, rfl⟩ | ⟨rfl, rfl⟩ | ⟨rfl, rfl⟩
      · obtain ⟨w135, q1, g135, u⟩ := g130.delAsked (m.to, m.ent)
        exact ⟨⟨by omega, by omega⟩, _, bb.at_ 0 rfl, _, kb.c0, _, kb.c1, w135, q1, ⟨T1, .inr (.inl ⟨by decide, rfl⟩), g135, f130.trans u.fr, bb.fr u.fr, kb.fr u.fr⟩, by show 3 - (IntKind.wrap .i64 (0 + 1)).toNat < 3 - (0 : Int).toNat; decide⟩
      · obtain ⟨w135, q1, g135, u⟩ := g130.delMore (m.to, m.ent)
        exact ⟨⟨by omega, by omega⟩, _, bb.at_ 1 rfl, _, kb.c0, _, kb.c1, w135, q1, ⟨T2, .inr (.inr ⟨by decide, rfl⟩), g135, f130.trans u.fr, bb.fr u.fr, kb.fr u.fr⟩, by show 3 - (IntKind.wrap .i64 (1 + 1)).toNat < 3 - (1 : Int).toNat; decide⟩
      · omega
    · have ti := of_decide_eq_false ti
      rcases hcase with ⟨rfl, rfl⟩ | ⟨rfl, rfl⟩ | ⟨rfl, rfl⟩
      · omega
      · omega
      refine DrewK.mk fun w136 hx136 => ?_
      have g136 := g130.ext hx136
      have kb := kb.ext hx136
      obtain ⟨w141, q1, g141, u1⟩ := g136.delProx (m.to, m.ent)
      refine ⟨_, g136.cell 6 rfl, _, kb.c0, _, kb.c1, w141, q1, DrewK.mk fun w142 hx142 => ?_⟩
      have g142 := g141.ext hx142
      have kb := (kb.fr u1.fr).ext hx142
      obtain ⟨w147, q2, g147, u2⟩ := g142.delWaits (m.to, m.ent)
      refine ⟨_, g142.cell 10 rfl, _, kb.c0, _, kb.c1, w147, q2, DrewK.mk fun w148 hx148 => ?_⟩
      have g148 := g147.ext hx148
      have kb := (kb.fr u2.fr).ext hx148
      obtain ⟨w153, q3, g153, u3⟩ := g148.putGone (m.to, m.ent) true
      refine ⟨_, g148.cell 8 rfl, _, kb.c0, _, kb.c1, w153, q3, ?_⟩
      refine fin (by unfold TakeOk; rw [if_neg (by rw [tA]; simp), if_neg (by rw [tG]; simp), if_neg (by rw [tP]; simp), if_neg (by rw [tB]; simp), if_neg (by rw [tR]; simp), if_pos tO]) (PostC.mk (S' := (S.take k.toNat).goneM (m.to, m.ent)) g153 ?_ rfl)
      exact ((((((((Fr.of_ext _ hx121).trans (Fr.of_ext _ hx127)).trans f130).trans (Fr.of_ext _ hx136)).trans u1.fr).trans (Fr.of_ext _ hx142)).trans u2.fr).trans (Fr.of_ext _ hx148)).trans u3.fr
  · -- none of these
    refine fin (by unfold TakeOk; rw [if_neg (by rw [tA]; simp), if_neg (by rw [tG]; simp), if_neg (by rw [tP]; simp), if_neg (by rw [tB]; simp), if_neg (by rw [tR]; simp), if_neg (by rw [tO]; simp)]) (PostC.mk g33 (Fr.refl _ _) rfl)
end
end Go.Proofs.Ytgggbmikmmljcaa

namespace Go.Proofs.Ytgggbmikmmljcaa
open Go Go.V Go.Proofs
open Go.RowKit (Below)
/-! manystrand/manystrandlaw27.awake -/
def N21  (K : Bool → World → Prop) (w : World) : Prop :=
  Calls Try.prog 53 #[(.int .i64 2), (.int .i64 5), (.int .i64 5)] w fun e4 w3 =>
  ∃ (o1 : Option Addr), ∃ (x2 : Int), e4 = .returned (.tuple #[(.pointer o1), (.int .i64 x2)]) ∧
  (BoolK ((x2 : Int) != 0)
    (K false w3)
    (Calls Try.prog 4 #[(.pointer o1), (.int .i64 0)] w3 fun e8 w7 =>
      ∃ (x5 : Int), ∃ (x6 : Int), e8 = .returned (.tuple #[(.int .i64 x5), (.int .i64 x6)]) ∧
      (Calls Try.prog 7 #[(.pointer o1), (.int .i64 1), (.int .i64 x5)] w7 fun e11 w10 =>
        ∃ (x9 : Int), e11 = .returned (.int .i64 x9) ∧
        (Calls Try.prog 12 #[(.pointer o1), (.int .i64 0)] w10 fun e14 w13 =>
          ∃ (x12 : Int), e14 = .returned (.int .i64 x12) ∧
          (Calls Try.prog 12 #[(.pointer o1), (.int .i64 0)] w13 fun e17 w16 =>
            ∃ (x15 : Int), e17 = .returned (.int .i64 x15) ∧
            (BoolK ((x5 : Int) == 1)
              (BoolK ((x6 : Int) == 0)
                (BoolK ((x9 : Int) == 0)
                  (BoolK ((x12 : Int) == 0)
                    (BoolK ((x15 : Int) == 0)
                      (Calls Try.prog 15 #[(.pointer o1), (.int .i64 1), (.int .i64 1)] w16 fun e20 w19 =>
                        ∃ (x18 : Int), e20 = .returned (.int .i64 x18) ∧
                        (BoolK ((x18 : Int) == 65536)
                          (Calls Try.prog 17 #[(.pointer o1), (.int .i64 1)] w19 fun e23 w22 =>
                            ∃ (s21 : ByteArray), e23 = .returned (.string s21) ∧
                            (K ((s21 : ByteArray).toList == ((⟨#[108, 105, 118, 101]⟩ : ByteArray) : ByteArray).toList) w22))
                          (K false w19)))
                      (K false w16))
                    (K false w16))
                  (K false w16))
                (K false w16))
              (K false w16)))))))
def ann21 : Ann := (.two .nil (.two .nil (.two (.two .nil (.two (.two .nil .nil) .nil)) (.two .nil (.two .nil (.two .nil (.two .nil (.two .nil .nil))))))))
noncomputable def code21 : Code := match Try.f21.body with | some c => c | none => .skip
theorem wp21  (K : Bool → World → Prop) (w : World) : WP Try.prog tab code21 ann21 (fnQ tab Try.f21.results.toList [(.one .bool)] K) (argE 0 []) w = N21  K w := by kernel_rfl
theorem calls21  (K : Bool → World → Prop) (w : World) (h : N21  K w) : Calls Try.prog 21 #[] w fun en w' => ∃ (p24 : Bool), en = .returned (.bool p24) ∧ K p24 w' :=
  have e : (fun en w' => ExShs [(.one .bool)] fun vs => en = .returned (tupled vs) ∧ ap [(.one .bool)] K vs fun p => p w') = (fun (en : Ending) (w' : World) => ∃ (p24 : Bool), en = .returned (.bool p24) ∧ K p24 w') := by kernel_rfl
  e ▸ fn_sound tabOk mixed Try.func21 (by kernel_rfl : Try.f21.body = some code21) ann21 [] [(.one .bool)] K w (by kernel_rfl) ((wp21  K w).symm ▸ h)
end Go.Proofs.Ytgggbmikmmljcaa

namespace Go.Proofs.Ytgggbmikmmljcaa
open Go Go.V Go.Proofs
open Go.RowKit (Below)

theorem isK_dec (s k : ByteArray) : isK s k = decide (bl s = bl k) := bl_eq s k
def A0 : CS := CS.zero 2 5 5
def A1 : CS := A0.make 0
def A2 : CS := ({ A1 with asked := upd A1.asked (1, 1) true }).send ⟨1, 0, kAsk, 1, 0⟩
def A3 : CS := (A2.take 0).give 1 kGive 1 ⟨0, true, 0, 0, false, false, []⟩
def A4 : CS := (((A3.take 0).unask (1, 1)).pay (1, 1) 65536).cut (1, 1)
theorem a1 : A0.makeE 0 = A1 := by rw [CS.makeE, if_pos (by decide)]; rfl
theorem a2 : A1.askS 1 1 = A2 := by rw [CS.askS, if_pos ⟨by decide, rfl, by decide, rfl, rfl⟩]; rfl
theorem live1 {S : CS} {s : ByteArray} (hT : S.isT 1) (h1 : (S.th 1).expired = false) (h2 : (S.th 1).holds = true) (h3 : (S.th 1).swept = false) (h : StateOk S 1 s) : isK s kLive = true := by
  rcases h with ⟨h, _⟩ | ⟨_, ⟨h, _⟩ | ⟨_, _, h⟩ | ⟨_, rfl, _⟩⟩
  · exact absurd hT h
  · rw [h1] at h; cases h
  · rcases h with h | ⟨_, h, _⟩
    · rw [h3] at h; cases h
    · rw [h2] at h; cases h
  · rw [isK_dec]; decide
theorem a3 {e : Int} {S' : CS} (h : DelOk A2 0 e S') : e = 0 ∧ S' = A3 := by
  rcases h with ⟨h, _⟩ | ⟨m, _, hm, rfl, ht⟩
  · exact absurd (by decide) h
  · have : m = ⟨1, 0, kAsk, 1, 0⟩ := by have : some m = some ⟨1, 0, kAsk, 1, 0⟩ := hm.symm.trans rfl; cases this; rfl
    subst this
    unfold TakeOk at ht
    rw [if_pos (by simp only [isK_dec]; decide)] at ht
    obtain ⟨s, hs, ht⟩ := ht
    rw [if_pos (live1 (by decide) rfl rfl rfl hs)] at ht
    exact ⟨rfl, ht⟩
theorem a4 {e : Int} {S' : CS} (h : DelOk A3 0 e S') : e = 0 ∧ S' = A4 := by
  rcases h with ⟨h, _⟩ | ⟨m, _, hm, rfl, ht⟩
  · exact absurd (by decide) h
  · have : m = ⟨0, 1, kGive, 1, 65536⟩ := by have : some m = some ⟨0, 1, kGive, 1, 65536⟩ := hm.symm.trans rfl; cases this; rfl
    subst this
    unfold TakeOk at ht
    rw [if_neg (by simp only [isK_dec]; decide), if_pos (by simp only [isK_dec]; decide)] at ht
    refine ⟨rfl, ht.trans ?_⟩
    rw [CS.again, if_pos (by rfl)]; rfl
theorem safeOf {S : CS} (h1 : S.things.length ≤ 1) (h2 : S.fly.length ≤ 1) (h3 : ∀ t ∈ S.things, t.on = [] ∧ S.isS t.owner ∧ 0 ≤ t.out ∧ t.out ≤ 65536) (h4 : ∀ k, 0 ≤ S.prox k ∧ S.prox k ≤ 65536) (h5 : ∀ m ∈ S.fly, S.isT m.ent ∧ 0 ≤ m.n ∧ m.n ≤ 65536) (h6 : ∀ k, S.waits k = []) : Safe S where
  th := by omega
  fly := by omega
  on := fun t ht => by rw [(h3 t ht).1]; simp
  own := fun t ht => (h3 t ht).2.1
  out := fun t ht => by have := (h3 t ht).2.2; omega
  prox := fun k => by have := h4 k; omega
  flyE := fun m hm => by have := h5 m hm; exact ⟨this.1, by omega, by omega⟩
  wl := fun k => by rw [h6]; simp; omega
theorem safe2 : Safe A2 := safeOf (by decide) (by decide) (fun t ht => by
    have : t = ⟨0, true, 0, 0, false, false, []⟩ := by simpa [A2, A1, A0, CS.send, CS.make, CS.zero] using ht
    subst this; exact ⟨rfl, by decide, by decide, by decide⟩) (fun k => ⟨Int.le_refl 0, by show (0 : Int) ≤ _; decide⟩) (fun m hm => by
    have : m = ⟨1, 0, kAsk, 1, 0⟩ := by simpa [A2, A1, A0, CS.send, CS.make, CS.zero] using hm
    subst this; exact ⟨by decide, by decide, by decide⟩) (fun k => rfl)
theorem safe3 : Safe A3 := safeOf (by decide) (by decide) (fun t ht => by
    have : t = ⟨0, true, 65536, 0, false, false, []⟩ := by simpa [A3, A2, A1, A0, CS.send, CS.make, CS.zero, CS.give, CS.take, CS.setTh] using ht
    subst this; exact ⟨rfl, by decide, by decide, by decide⟩) (fun k => ⟨Int.le_refl 0, by show (0 : Int) ≤ _; decide⟩) (fun m hm => by
    have : m = ⟨0, 1, kGive, 1, 65536⟩ := by simpa [A3, A2, A1, A0, CS.send, CS.make, CS.zero, CS.give, CS.take, CS.setTh] using hm
    subst this; exact ⟨by decide, by decide, by decide⟩) (fun k => rfl)
theorem lim1 : Lim A1 := ⟨by decide, by decide⟩
theorem lim4 : Lim2 A4 := ⟨⟨by decide, by decide⟩, fun t ht => by
    have : t = ⟨0, true, 65536, 0, false, false, []⟩ := by simpa [A4, A3, A2, A1, A0, CS.send, CS.make, CS.zero, CS.give, CS.take, CS.setTh, CS.cut, CS.pay, CS.unask] using ht
    subst this; simp⟩
theorem c21 (w : World) : Calls Try.prog 21 #[] w fun en w' => ∃ p, en = .returned (.bool p) ∧ (p = true ∧ Ext w w') := by
  refine calls21 _ w ?_
  refine (c53 2 5 5).mono ?_
  rintro en w3 ⟨o, e, rfl, ⟨h, _⟩ | ⟨_, rfl, own, r, rfl, h3, f3⟩⟩
  · exact absurd ⟨by decide, by decide, by decide, by decide, by decide, by decide⟩ h
  refine ⟨_, _, rfl, BoolK.mk (fun t => by cases t) (fun _ => ?_)⟩
  refine (c4 h3 ⟨by decide, by decide⟩ 0).mono ?_
  rintro en w7 ⟨n, e, rfl, he, own7, r7, h7, f7, e7⟩
  rw [if_pos (by decide)] at he
  obtain ⟨rfl, rfl⟩ : n = 1 ∧ e = 0 := by simpa [CS.zero] using he
  refine ⟨_, _, rfl, ?_⟩
  obtain ⟨rb, cl, ca, th, fl, mp, ma, mg, mm, mw, ths, wts⟩ := r7
  cases e7
  have h7 : CR w7 own7 _ A1 := a1 ▸ h7
  refine (c7 h7 lim1 1 1).mono ?_
  rintro en w10 ⟨e, rfl, he, own10, r10, h10, f10, e10⟩
  have he : e = 0 := he
  subst he
  refine ⟨_, rfl, ?_⟩
  obtain ⟨rb, cl, ca, th, fl, mp, ma, mg, mm, mw, ths, wts⟩ := r10
  cases e10
  have h10 : CR w10 own10 _ A2 := a2 ▸ h10
  refine (c12 h10 safe2 0).mono ?_
  rintro en w13 ⟨e, rfl, S', hd, own13, r13, h13, f13, e13⟩
  obtain ⟨rfl, rfl⟩ := a3 hd
  refine ⟨_, rfl, ?_⟩
  obtain ⟨rb, cl, ca, th, fl, mp, ma, mg, mm, mw, ths, wts⟩ := r13
  cases e13
  refine (c12 h13 safe3 0).mono ?_
  rintro en w16 ⟨e, rfl, S', hd, own16, r16, h16, f16, e16⟩
  obtain ⟨rfl, rfl⟩ := a4 hd
  refine ⟨_, rfl, ?_⟩
  obtain ⟨rb, cl, ca, th, fl, mp, ma, mg, mm, mw, ths, wts⟩ := r16
  cases e16
  have F : Fr (fun _ => none) own16 w w16 := (((f3.trans f7).trans f10).trans f13).trans f16
  have hx : Ext w w16 := ⟨F.os, F.tape, F.output, F.size, fun k hk => F.block k hk rfl⟩
  refine BoolK.mk (fun _ => BoolK.mk (fun _ => BoolK.mk (fun _ => BoolK.mk (fun _ => BoolK.mk (fun _ => ?_) (fun t => by cases t)) (fun t => by cases t)) (fun t => by cases t)) (fun t => by cases t)) (fun t => by cases t)
  refine (c15 h16 1 1).mono ?_
  rintro en w19 ⟨x, rfl, rfl, rfl⟩
  refine ⟨_, rfl, BoolK.mk (fun _ => ?_) (fun t => absurd (t.symm.trans (by decide : (A4.prox (1, 1) == 65536) = true)) (by decide))⟩
  refine (c17 h16 lim4 1).mono ?_
  rintro en w22 ⟨s, rfl, hs, hx22⟩
  exact ⟨_, rfl, live1 (by decide) rfl rfl rfl hs, hx.trans hx22⟩
end Go.Proofs.Ytgggbmikmmljcaa

namespace Go.Proofs.Ytgggbmikmmljcaa
open Go Go.V Go.Proofs
open Go.RowKit (Below)
/-! manystrand/manystrandlaw27.CountNil -/
def N3 (x1 : Int) (x2 : Int) (K : Bool → World → Prop) (w : World) : Prop :=
  Calls Try.prog 4 #[(.pointer none), (.int .i64 x1)] w fun e6 w5 =>
  ∃ (x3 : Int), ∃ (x4 : Int), e6 = .returned (.tuple #[(.int .i64 x3), (.int .i64 x4)]) ∧
  (Calls Try.prog 5 #[(.pointer none), (.int .i64 x1)] w5 fun e10 w9 =>
    ∃ (x7 : Int), ∃ (x8 : Int), e10 = .returned (.tuple #[(.int .i64 x7), (.int .i64 x8)]) ∧
    (Calls Try.prog 6 #[(.pointer none), (.int .i64 x1)] w9 fun e14 w13 =>
      ∃ (a11 : Option Addr), ∃ (l11 : Nat), ∃ (c11 : Nat), ∃ (x12 : Int), e14 = .returned (.tuple #[(.slice a11 l11 c11), (.int .i64 x12)]) ∧
      (Calls Try.prog 7 #[(.pointer none), (.int .i64 x1), (.int .i64 x2)] w13 fun e17 w16 =>
        ∃ (x15 : Int), e17 = .returned (.int .i64 x15) ∧
        (Calls Try.prog 8 #[(.pointer none), (.int .i64 x1), (.int .i64 x2), (.int .i64 x1)] w16 fun e20 w19 =>
          ∃ (x18 : Int), e20 = .returned (.int .i64 x18) ∧
          (Calls Try.prog 9 #[(.pointer none), (.int .i64 x1), (.int .i64 x2)] w19 fun e23 w22 =>
            ∃ (x21 : Int), e23 = .returned (.int .i64 x21) ∧
            (Calls Try.prog 10 #[(.pointer none), (.int .i64 x1), (.int .i64 x2)] w22 fun e26 w25 =>
              ∃ (x24 : Int), e26 = .returned (.int .i64 x24) ∧
              (Calls Try.prog 11 #[(.pointer none), (.int .i64 x1), (.int .i64 x2)] w25 fun e29 w28 =>
                ∃ (x27 : Int), e29 = .returned (.int .i64 x27) ∧
                (Calls Try.prog 12 #[(.pointer none), (.int .i64 x1)] w28 fun e32 w31 =>
                  ∃ (x30 : Int), e32 = .returned (.int .i64 x30) ∧
                  (Calls Try.prog 13 #[(.pointer none), (.int .i64 x1)] w31 fun e35 w34 =>
                    ∃ (x33 : Int), e35 = .returned (.int .i64 x33) ∧
                    (Calls Try.prog 14 #[(.pointer none), (.int .i64 x1)] w34 fun e38 w37 =>
                      ∃ (x36 : Int), e38 = .returned (.int .i64 x36) ∧
                      (AllocK w37 (#[(.int .i64 x4), (.int .i64 x8), (.int .i64 x12), (.int .i64 x15), (.int .i64 x18), (.int .i64 x21), (.int .i64 x24), (.int .i64 x27), (.int .i64 x30), (.int .i64 x33), (.int .i64 x36)]) 23 fun b39 w40 =>
                        ∃ (I41 : Int → World → Prop) (μ42 : Int → World → Nat),
                        (I41 0 w40 ∧ True) ∧
                        ∀ (w43 : World) (x44 : Int), I41 x44 w43 →
                        BoolK (decide ((x44 : Int) < (11 : Nat)))
                        ((0 ≤ (x44 : Int) ∧ (x44 : Int) < (11 : Nat)) ∧
                          ∃ (x45 : Int), w43.cell? (b39.add ((x44 : Int).toNat * 1)) = some (.int .i64 x45) ∧
                          (BoolK ((x45 : Int) != 7)
                            (K false w43)
                            (I41 (IntKind.wrap .i64 (x44 + 1)) w43 ∧ μ42 (IntKind.wrap .i64 (x44 + 1)) w43 < μ42 x44 w43)))
                        (Calls Try.prog 15 #[(.pointer none), (.int .i64 x1), (.int .i64 x2)] w43 fun e48 w47 =>
                          ∃ (x46 : Int), e48 = .returned (.int .i64 x46) ∧
                          (BoolK ((x46 : Int) == 0)
                            (Calls Try.prog 16 #[(.pointer none)] w47 fun e51 w50 =>
                              ∃ (a49 : Option Addr), ∃ (l49 : Nat), ∃ (c49 : Nat), e51 = .returned (.slice a49 l49 c49) ∧
                              (BoolK (((l49 : Nat) : Int) == 0)
                                (Calls Try.prog 17 #[(.pointer none), (.int .i64 x1)] w50 fun e54 w53 =>
                                  ∃ (s52 : ByteArray), e54 = .returned (.string s52) ∧
                                  (BoolK ((s52 : ByteArray).toList == ((⟨#[]⟩ : ByteArray) : ByteArray).toList)
                                    (Calls Try.prog 18 #[(.pointer none)] w53 fun e57 w56 =>
                                      ∃ (a55 : Option Addr), ∃ (l55 : Nat), ∃ (c55 : Nat), e57 = .returned (.slice a55 l55 c55) ∧
                                      (BoolK (((l55 : Nat) : Int) == 0)
                                        (Calls Try.prog 19 #[(.pointer none), (.int .i64 x1), (.int .i64 x2)] w56 fun e60 w59 =>
                                          ∃ (p58 : Bool), e60 = .returned (.bool p58) ∧
                                          (BoolK (!p58)
                                            (Calls Try.prog 20 #[(.pointer none)] w59 fun e63 w62 =>
                                              ∃ (o61 : Option Addr), e63 = .returned (.pointer o61) ∧
                                              (BoolK o61.isNone
                                                (Calls Try.prog 21 #[] w62 fun e66 w65 =>
                                                  ∃ (p64 : Bool), e66 = .returned (.bool p64) ∧
                                                  (K p64 w65))
                                                (K false w62)))
                                            (K false w59)))
                                        (K false w56)))
                                    (K false w53)))
                                (K false w50)))
                            (K false w47))))))))))))))
def ann3 : Ann := (.two .nil (.two .nil (.two .nil (.two .nil (.two .nil (.two (.two .nil (.one (.loop [(67, (.one (.int .i64)))] [0, 1, 5, 65, 66] (.two .nil (.two (.two .nil .nil) (.two (.one (.two .nil (.two .nil (.two (.two .nil .nil) .nil)))) .nil)))))) (.two .nil .nil)))))))
noncomputable def code3 : Code := match Try.f3.body with | some c => c | none => .skip
theorem wp3 (x1 : Int) (x2 : Int) (K : Bool → World → Prop) (w : World) : WP Try.prog tab code3 ann3 (fnQ tab Try.f3.results.toList [(.one .bool)] K) (argE 0 [(.int .i64 x1), (.int .i64 x2)]) w = N3 x1 x2 K w := by kernel_rfl
theorem calls3 (x1 : Int) (x2 : Int) (K : Bool → World → Prop) (w : World) (h : N3 x1 x2 K w) : Calls Try.prog 3 #[(.int .i64 x1), (.int .i64 x2)] w fun en w' => ∃ (p67 : Bool), en = .returned (.bool p67) ∧ K p67 w' :=
  have e : (fun en w' => ExShs [(.one .bool)] fun vs => en = .returned (tupled vs) ∧ ap [(.one .bool)] K vs fun p => p w') = (fun (en : Ending) (w' : World) => ∃ (p67 : Bool), en = .returned (.bool p67) ∧ K p67 w') := by kernel_rfl
  e ▸ fn_sound tabOk mixed Try.func3 (by kernel_rfl : Try.f3.body = some code3) ann3 [(.int .i64 x1), (.int .i64 x2)] [(.one .bool)] K w (by kernel_rfl) ((wp3 x1 x2 K w).symm ▸ h)
end Go.Proofs.Ytgggbmikmmljcaa

namespace Go.Proofs.Ytgggbmikmmljcaa
open Go Go.V Go.Proofs
open Go.RowKit (Below)
/-! (*manystrand/count.Count).Sweep -/
def N6 (o1 : Option Addr) (x2 : Int) (K : Option Addr → Nat → Nat → Int → World → Prop) (w : World) : Prop :=
  AllocK w (#[(.pointer o1)]) 22 fun b3 w4 =>
  AllocK w4 (#[(.int .i64 x2)]) 3 fun b5 w6 =>
  ∃ (o7 : Option Addr), w6.cell? b3 = some (.pointer o7) ∧
  (Calls Try.prog 22 #[(.pointer o7)] w6 fun e10 w9 =>
    ∃ (p8 : Bool), e10 = .returned (.bool p8) ∧
    (BoolK p8
      (K none 0 0 7 w9)
      (∃ (o11 : Option Addr), w9.cell? b3 = some (.pointer o11) ∧
        (∃ (x12 : Int), w9.cell? b5 = some (.int .i64 x12) ∧
          (Calls Try.prog 23 #[(.pointer o11), (.int .i64 x12)] w9 fun e15 w14 =>
            ∃ (p13 : Bool), e15 = .returned (.bool p13) ∧
            (BoolK (!p13)
              (K none 0 0 2 w14)
              (AllocK w14 (#[.slice none 0 0]) 26 fun b16 w17 =>
                ∃ (I18 : Bool → World → Prop) (μ19 : Bool → World → Nat),
                (I18 true w17 ∧ True) ∧
                ∀ (w20 : World) (p21 : Bool), I18 p21 w20 →
                BoolK p21
                (∃ (o22 : Option Addr), w20.cell? b3 = some (.pointer o22) ∧
                  (Calls Try.prog 26 #[(.pointer o22)] w20 fun e25 w24 =>
                    ∃ (a23 : Option Addr), ∃ (l23 : Nat), ∃ (c23 : Nat), e25 = .returned (.slice a23 l23 c23) ∧
                    (∃ (I26 : Bool → Int → World → Prop) (μ27 : Bool → Int → World → Nat),
                      (I26 false 1 w24 ∧ True) ∧
                      ∀ (w28 : World) (p29 : Bool) (x30 : Int), I26 p29 x30 w28 →
                      ∃ (o31 : Option Addr), w28.cell? b3 = some (.pointer o31) ∧
                      (AddrK o31 fun b32 =>
                        ∃ (a33 : Option Addr) (l33 : Nat) (c33 : Nat), w28.cell? (b32.add 5) = some (.slice a33 l33 c33) ∧
                        (BoolK (decide ((x30 : Int) ≤ (l33 : Nat)))
                          (∃ (o34 : Option Addr), w28.cell? b3 = some (.pointer o34) ∧
                            (Calls Try.prog 25 #[(.pointer o34), (.int .i64 x30)] w28 fun e37 w36 =>
                              ∃ (o35 : Option Addr), e37 = .returned (.pointer o35) ∧
                              (DrewK w36 fun w38 =>
                                AddrK o35 fun b39 =>
                                ∃ (x40 : Int), w38.cell? b39 = some (.int .i64 x40) ∧
                                (∃ (x41 : Int), w38.cell? b5 = some (.int .i64 x41) ∧
                                  (BoolK ((x40 : Int) != x41)
                                    (I26 p29 (IntKind.wrap .i64 (x30 + 1)) w38 ∧ μ27 p29 (IntKind.wrap .i64 (x30 + 1)) w38 < μ27 p29 x30 w28)
                                    ((0 ≤ (x30 : Int) ∧ (x30 : Int) < (l23 : Nat)) ∧
                                      AddrK a23 fun b42 =>
                                      ∃ (p43 : Bool), w38.cell? (b42.add ((x30 : Int).toNat * 1)) = some (.bool p43) ∧
                                      (BoolK (!p43)
                                        (I26 p29 (IntKind.wrap .i64 (x30 + 1)) w38 ∧ μ27 p29 (IntKind.wrap .i64 (x30 + 1)) w38 < μ27 p29 x30 w28)
                                        (AddrK o35 fun b44 =>
                                          ∃ (p45 : Bool), w38.cell? (b44.add 5) = some (.bool p45) ∧
                                          (BoolK p45
                                            (I26 p29 (IntKind.wrap .i64 (x30 + 1)) w38 ∧ μ27 p29 (IntKind.wrap .i64 (x30 + 1)) w38 < μ27 p29 x30 w28)
                                            (AddrK o35 fun b46 =>
                                              SetK w38 (b46.add 5) (.bool true) fun w47 =>
                                              AddrK o35 fun b48 =>
                                              SetK w47 (b48.add 6) (.slice none 0 0) fun w49 =>
                                              ∃ (a50 : Option Addr) (l50 : Nat) (c50 : Nat), w49.cell? b16 = some (.slice a50 l50 c50) ∧
                                              (AllocK w49 (#[(.int .i64 x30)]) 3 fun b51 w52 =>
                                                ∃ (a53 : Option Addr), ∃ (l53 : Nat), ∃ (c53 : Nat), ∃ (w54 : World), Sem.run Try.prog (Builtin.append_ #[26, 26] 26 #[(.slice a50 l50 c50), (.slice (some b51) 1 1)]) w52 = .ok (.slice a53 l53 c53) w54 ∧
                                                (SetK w54 b16 (.slice a53 l53 c53) fun w55 =>
                                                  I26 true (IntKind.wrap .i64 (x30 + 1)) w55 ∧ μ27 true (IntKind.wrap .i64 (x30 + 1)) w55 < μ27 p29 x30 w28))))))))))))
                          (I18 p29 w28 ∧ μ19 p29 w28 < μ19 p21 w20))))))
                (DrewK w20 fun w56 =>
                  ∃ (o57 : Option Addr), w56.cell? b3 = some (.pointer o57) ∧
                  (∃ (o58 : Option Addr), w56.cell? b3 = some (.pointer o58) ∧
                    (AddrK o58 fun b59 =>
                      ∃ (a60 : Option Addr) (l60 : Nat) (c60 : Nat), w56.cell? (b59.add 4) = some (.slice a60 l60 c60) ∧
                      (Cel w56 w56 ∧
                        (Calls Try.prog 27 #[(.slice a60 l60 c60), (.func (.func 28) #[] #[(.pointer (some b16)), (.pointer (some b5)), (.pointer (some b3))])] w56 fun e63 w62 =>
                          ∃ (a61 : Option Addr), ∃ (l61 : Nat), ∃ (c61 : Nat), e63 = .returned (.slice a61 l61 c61) ∧
                          (Cel w56 w62 ∧
                            (AddrK o57 fun b64 =>
                              SetK w62 (b64.add 4) (.slice a61 l61 c61) fun w65 =>
                              ∃ (a66 : Option Addr) (l66 : Nat) (c66 : Nat), w65.cell? b16 = some (.slice a66 l66 c66) ∧
                              (Calls Try.prog 32 #[(.slice a66 l66 c66)] w65 fun e68 w67 =>
                                e68 = .returned (.tuple #[]) ∧
                                (∃ (a69 : Option Addr) (l69 : Nat) (c69 : Nat), w67.cell? b16 = some (.slice a69 l69 c69) ∧
                                  (K a69 l69 c69 0 w67)))))))))))))))))
def ann6 : Ann := (.two .nil (.two (.two .nil (.two (.two .nil .nil) .nil)) (.two (.two .nil (.two (.two .nil .nil) .nil)) (.two .nil (.two (.two .nil (.one (.loop [(7, (.one .bool))] [2, 3, 6] (.two (.two .nil (.two .nil .nil)) (.one (.two .nil (.two .nil (.two .nil (.one (.loop [(7, (.one .bool)), (9, (.one (.int .i64)))] [2, 3, 6, 8] (.two (.two .nil (.two .nil .nil)) (.two (.one (.two .nil (.two (.two (.any 19 (.take 0 (.take 1 (.take 2 (.take 3 (.take 4 (.take 5 (.take 6 (.take 7 (.take 8 (.take 9 (.take 10 (.take 11 (.take 12 (.take 13 (.take 14 (.take 15 (.take 16 (.take 17 (.take 18 .done)))))))))))))))))))) (.two .nil .nil)) (.two .nil .nil)))) .nil)))))))))))) (.two (.any 9 (.take 0 (.take 1 (.take 2 (.take 3 (.take 4 (.one 5 (.one 6 (.take 7 (.take 8 .done)))))))))) (.two .nil (.two .nil .nil))))))))
noncomputable def code6 : Code := match Try.f6.body with | some c => c | none => .skip
theorem wp6 (o1 : Option Addr) (x2 : Int) (K : Option Addr → Nat → Nat → Int → World → Prop) (w : World) : WP Try.prog tab code6 ann6 (fnQ tab Try.f6.results.toList [(.one .slice), (.one (.int .i64))] K) (argE 0 [(.pointer o1), (.int .i64 x2)]) w = N6 o1 x2 K w := by kernel_rfl
theorem calls6 (o1 : Option Addr) (x2 : Int) (K : Option Addr → Nat → Nat → Int → World → Prop) (w : World) (h : N6 o1 x2 K w) : Calls Try.prog 6 #[(.pointer o1), (.int .i64 x2)] w fun en w' => ∃ (a70 : Option Addr), ∃ (l70 : Nat), ∃ (c70 : Nat), ∃ (x71 : Int), en = .returned (.tuple #[(.slice a70 l70 c70), (.int .i64 x71)]) ∧ K a70 l70 c70 x71 w' :=
  have e : (fun en w' => ExShs [(.one .slice), (.one (.int .i64))] fun vs => en = .returned (tupled vs) ∧ ap [(.one .slice), (.one (.int .i64))] K vs fun p => p w') = (fun (en : Ending) (w' : World) => ∃ (a70 : Option Addr), ∃ (l70 : Nat), ∃ (c70 : Nat), ∃ (x71 : Int), en = .returned (.tuple #[(.slice a70 l70 c70), (.int .i64 x71)]) ∧ K a70 l70 c70 x71 w') := by kernel_rfl
  e ▸ fn_sound tabOk mixed Try.func6 (by kernel_rfl : Try.f6.body = some code6) ann6 [(.pointer o1), (.int .i64 x2)] [(.one .slice), (.one (.int .i64))] K w (by kernel_rfl) ((wp6 o1 x2 K w).symm ▸ h)
end Go.Proofs.Ytgggbmikmmljcaa

namespace Go.Proofs.Ytgggbmikmmljcaa
open Go Go.V Go.Proofs
open Go.RowKit (Below)
/-! (*manystrand/count.Count).Pass -/
def N8 (o1 : Option Addr) (x2 : Int) (x3 : Int) (x4 : Int) (K : Int → World → Prop) (w : World) : Prop :=
  AllocK w (#[(.int .i64 x2), (.int .i64 x3)]) 3 fun b5 w6 =>
  Calls Try.prog 24 #[(.pointer o1), (.int .i64 x4), (.slice (some b5) 2 2)] w6 fun e9 w8 =>
  ∃ (x7 : Int), e9 = .returned (.int .i64 x7) ∧
  (BoolK ((x7 : Int) != 0)
    (K x7 w8)
    (Calls Try.prog 25 #[(.pointer o1), (.int .i64 x4)] w8 fun e12 w11 =>
      ∃ (o10 : Option Addr), e12 = .returned (.pointer o10) ∧
      (AddrK o10 fun b13 =>
        ∃ (x14 : Int), w11.cell? b13 = some (.int .i64 x14) ∧
        (BoolK ((x2 : Int) == x14)
          (Calls Try.prog 17 #[(.pointer o1), (.int .i64 x4)] w11 fun e17 w16 =>
            ∃ (s15 : ByteArray), e17 = .returned (.string s15) ∧
            (BoolK (!((s15 : ByteArray).toList == ((⟨#[108, 105, 118, 101]⟩ : ByteArray) : ByteArray).toList))
              (K 200 w16)
              (BoolK ((x3 : Int) != x2)
                (Calls Try.prog 34 #[(.pointer o1), (.int .i64 x3), (.string (⟨#[112, 97, 115, 115]⟩ : ByteArray)), (.int .i64 x4)] w16 fun e19 w18 =>
                  e19 = .returned (.tuple #[]) ∧
                  (K 0 w18))
                (K 0 w16))))
          (AllocK w11 (#[.int .i64 0, .int .i64 0]) 61 fun b20 w21 =>
            SetK w21 (b20.add 0) (.int .i64 x2) fun w22 =>
            SetK w22 (b20.add 1) (.int .i64 x4) fun w23 =>
            DrewK w23 fun w24 =>
            AddrK o1 fun b25 =>
            ∃ (m26 : Option Nat), w24.cell? (b25.add 6) = some (.map m26) ∧
            (∃ (x27 : Int), w24.cell? (b20.add 0) = some (.int .i64 x27) ∧
              (∃ (x28 : Int), w24.cell? (b20.add 1) = some (.int .i64 x28) ∧
                (∃ (x29 : Int), ∃ (w30 : World), Sem.run Try.prog (Instr.lookup 45 (.map m26) (.agg #[(.int .i64 x27), (.int .i64 x28)]) false) w24 = .ok (.int .i64 x29) w30 ∧
                  (Cel w24 w30 ∧
                    (BoolK ((x29 : Int) == 0)
                      (K 5 w30)
                      (BoolK ((x3 : Int) == x2)
                        (K 0 w30)
                        (BoolK (decide ((x29 : Int) > 1))
                          (∃ (x31 : Int), w30.cell? (b20.add 0) = some (.int .i64 x31) ∧
                            (∃ (x32 : Int), w30.cell? (b20.add 1) = some (.int .i64 x32) ∧
                              (Calls Try.prog 35 #[(.pointer o1), (.agg #[(.int .i64 x31), (.int .i64 x32)]), (.int .i64 x3)] w30 fun e34 w33 =>
                                e34 = .returned (.tuple #[]) ∧
                                (K 0 w33))))
                          (DrewK w30 fun w35 =>
                            AddrK o1 fun b36 =>
                            ∃ (m37 : Option Nat), w35.cell? (b36.add 10) = some (.map m37) ∧
                            (∃ (x38 : Int), w35.cell? (b20.add 0) = some (.int .i64 x38) ∧
                              (∃ (x39 : Int), w35.cell? (b20.add 1) = some (.int .i64 x39) ∧
                                (AllocK w35 (#[(.int .i64 x3)]) 3 fun b40 w41 =>
                                  Cel w35 w41 ∧
                                  (∃ (a42 : Option Addr), ∃ (l42 : Nat), ∃ (c42 : Nat), ∃ (x43 : Int), ∃ (w44 : World), Sem.run Try.prog (Instr.mapEntry 47 (.map m37) (.agg #[(.int .i64 x38), (.int .i64 x39)])) w41 = .ok (.tuple #[(.slice a42 l42 c42), (.int .i64 x43)]) w44 ∧
                                    (Cel w35 w44 ∧
                                      (∃ (a45 : Option Addr), ∃ (l45 : Nat), ∃ (c45 : Nat), ∃ (w46 : World), Sem.run Try.prog (Builtin.append_ #[26, 26] 26 #[(.slice a42 l42 c42), (.slice (some b40) 1 1)]) w44 = .ok (.slice a45 l45 c45) w46 ∧
                                        (Cel w35 w46 ∧
                                          (∃ (w47 : World), Sem.run Try.prog (Instr.entryStore 47 (.map m37) (.int .i64 x43) (.slice a45 l45 c45)) w46 = .ok () w47 ∧
                                            (Cel w35 w47 ∧
                                              (DrewK w47 fun w48 =>
                                                AddrK o1 fun b49 =>
                                                ∃ (m50 : Option Nat), w48.cell? (b49.add 9) = some (.map m50) ∧
                                                (∃ (x51 : Int), w48.cell? (b20.add 0) = some (.int .i64 x51) ∧
                                                  (∃ (x52 : Int), w48.cell? (b20.add 1) = some (.int .i64 x52) ∧
                                                    (∃ (p53 : Bool), ∃ (w54 : World), Sem.run Try.prog (Instr.lookup 46 (.map m50) (.agg #[(.int .i64 x51), (.int .i64 x52)]) false) w48 = .ok (.bool p53) w54 ∧
                                                      (Cel w48 w54 ∧
                                                        (BoolK (!p53)
                                                          (∃ (x55 : Int), w54.cell? (b20.add 0) = some (.int .i64 x55) ∧
                                                            (∃ (x56 : Int), w54.cell? (b20.add 1) = some (.int .i64 x56) ∧
                                                              (Calls Try.prog 36 #[(.pointer o1), (.agg #[(.int .i64 x55), (.int .i64 x56)])] w54 fun e58 w57 =>
                                                              e58 = .returned (.tuple #[]) ∧
                                                              (K 0 w57))))
                                                          (K 0 w54)))))))))))))))))))))))))))))
def ann8 : Ann := (.two .nil (.two (.two .nil (.two .nil (.two (.two .nil .nil) .nil))) (.two (.two .nil (.two (.two (.two .nil (.two (.two .nil .nil) .nil)) (.two (.two .nil (.two .nil .nil)) (.two .nil .nil))) .nil)) (.two .nil (.two (.two (.any 7 (.take 0 (.take 1 (.take 2 (.take 3 (.take 4 (.one 5 (.take 6 .done)))))))) (.one (.two .nil (.two (.two .nil .nil) (.two .nil (.two .nil (.two .nil (.two .nil (.two (.any 12 (.take 0 (.take 1 (.take 2 (.take 3 (.take 4 (.take 5 (.one 6 (.one 7 (.take 8 (.take 10 (.one 9 (.one 11 .done))))))))))))) (.two (.any 7 (.take 0 (.take 1 (.take 2 (.take 3 (.take 4 (.one 5 (.take 6 .done)))))))) (.two .nil .nil))))))))))) (.two .nil .nil))))))
noncomputable def code8 : Code := match Try.f8.body with | some c => c | none => .skip
theorem wp8 (o1 : Option Addr) (x2 : Int) (x3 : Int) (x4 : Int) (K : Int → World → Prop) (w : World) : WP Try.prog tab code8 ann8 (fnQ tab Try.f8.results.toList [(.one (.int .i64))] K) (argE 0 [(.pointer o1), (.int .i64 x2), (.int .i64 x3), (.int .i64 x4)]) w = N8 o1 x2 x3 x4 K w := by kernel_rfl
theorem calls8 (o1 : Option Addr) (x2 : Int) (x3 : Int) (x4 : Int) (K : Int → World → Prop) (w : World) (h : N8 o1 x2 x3 x4 K w) : Calls Try.prog 8 #[(.pointer o1), (.int .i64 x2), (.int .i64 x3), (.int .i64 x4)] w fun en w' => ∃ (x59 : Int), en = .returned (.int .i64 x59) ∧ K x59 w' :=
  have e : (fun en w' => ExShs [(.one (.int .i64))] fun vs => en = .returned (tupled vs) ∧ ap [(.one (.int .i64))] K vs fun p => p w') = (fun (en : Ending) (w' : World) => ∃ (x59 : Int), en = .returned (.int .i64 x59) ∧ K x59 w') := by kernel_rfl
  e ▸ fn_sound tabOk mixed Try.func8 (by kernel_rfl : Try.f8.body = some code8) ann8 [(.pointer o1), (.int .i64 x2), (.int .i64 x3), (.int .i64 x4)] [(.one (.int .i64))] K w (by kernel_rfl) ((wp8 o1 x2 x3 x4 K w).symm ▸ h)
end Go.Proofs.Ytgggbmikmmljcaa

namespace Go.Proofs.Ytgggbmikmmljcaa
open Go Go.V Go.Proofs
open Go.RowKit (Below)
/-! (*manystrand/count.Count).Drop -/
def N9 (o1 : Option Addr) (x2 : Int) (x3 : Int) (K : Int → World → Prop) (w : World) : Prop :=
  AllocK w (#[(.int .i64 x2)]) 3 fun b4 w5 =>
  Calls Try.prog 24 #[(.pointer o1), (.int .i64 x3), (.slice (some b4) 1 1)] w5 fun e8 w7 =>
  ∃ (x6 : Int), e8 = .returned (.int .i64 x6) ∧
  (BoolK ((x6 : Int) != 0)
    (K x6 w7)
    (Calls Try.prog 19 #[(.pointer o1), (.int .i64 x2), (.int .i64 x3)] w7 fun e11 w10 =>
      ∃ (p9 : Bool), e11 = .returned (.bool p9) ∧
      (BoolK (!p9)
        (K 5 w10)
        (Calls Try.prog 30 #[(.pointer o1), (.int .i64 x2), (.int .i64 x3)] w10 fun e14 w13 =>
          ∃ (p12 : Bool), e14 = .returned (.bool p12) ∧
          (BoolK p12
            (K 100 w13)
            (Calls Try.prog 25 #[(.pointer o1), (.int .i64 x3)] w13 fun e17 w16 =>
              ∃ (o15 : Option Addr), e17 = .returned (.pointer o15) ∧
              (AddrK o15 fun b18 =>
                ∃ (x19 : Int), w16.cell? b18 = some (.int .i64 x19) ∧
                (BoolK ((x2 : Int) == x19)
                  (Calls Try.prog 25 #[(.pointer o1), (.int .i64 x3)] w16 fun e22 w21 =>
                    ∃ (o20 : Option Addr), e22 = .returned (.pointer o20) ∧
                    (AddrK o20 fun b23 =>
                      SetK w21 (b23.add 1) (.bool false) fun w24 =>
                      K 0 w24))
                  (Calls Try.prog 31 #[(.pointer o1), (.agg #[(.int .i64 x2), (.int .i64 x3)])] w16 fun e26 w25 =>
                    e26 = .returned (.tuple #[]) ∧
                    (K 0 w25))))))))))
def ann9 : Ann := (.two .nil (.two (.two .nil (.two .nil (.two (.two .nil .nil) .nil))) (.two (.one (.two .nil (.two (.two .nil .nil) (.two .nil (.two (.two .nil .nil) (.two .nil (.two .nil .nil))))))) (.two .nil .nil))))
noncomputable def code9 : Code := match Try.f9.body with | some c => c | none => .skip
theorem wp9 (o1 : Option Addr) (x2 : Int) (x3 : Int) (K : Int → World → Prop) (w : World) : WP Try.prog tab code9 ann9 (fnQ tab Try.f9.results.toList [(.one (.int .i64))] K) (argE 0 [(.pointer o1), (.int .i64 x2), (.int .i64 x3)]) w = N9 o1 x2 x3 K w := by kernel_rfl
theorem calls9 (o1 : Option Addr) (x2 : Int) (x3 : Int) (K : Int → World → Prop) (w : World) (h : N9 o1 x2 x3 K w) : Calls Try.prog 9 #[(.pointer o1), (.int .i64 x2), (.int .i64 x3)] w fun en w' => ∃ (x27 : Int), en = .returned (.int .i64 x27) ∧ K x27 w' :=
  have e : (fun en w' => ExShs [(.one (.int .i64))] fun vs => en = .returned (tupled vs) ∧ ap [(.one (.int .i64))] K vs fun p => p w') = (fun (en : Ending) (w' : World) => ∃ (x27 : Int), en = .returned (.int .i64 x27) ∧ K x27 w') := by kernel_rfl
  e ▸ fn_sound tabOk mixed Try.func9 (by kernel_rfl : Try.f9.body = some code9) ann9 [(.pointer o1), (.int .i64 x2), (.int .i64 x3)] [(.one (.int .i64))] K w (by kernel_rfl) ((wp9 o1 x2 x3 K w).symm ▸ h)
end Go.Proofs.Ytgggbmikmmljcaa

namespace Go.Proofs.Ytgggbmikmmljcaa
open Go Go.V Go.Proofs
open Go.RowKit (Below)
/-! (*manystrand/count.Count).Hold -/
def N10 (o1 : Option Addr) (x2 : Int) (x3 : Int) (K : Int → World → Prop) (w : World) : Prop :=
  Calls Try.prog 24 #[(.pointer o1), (.int .i64 x2), (.slice none 0 0)] w fun e6 w5 =>
  ∃ (x4 : Int), e6 = .returned (.int .i64 x4) ∧
  (BoolK ((x4 : Int) != 0)
    (K x4 w5)
    (Calls Try.prog 37 #[(.pointer o1), (.int .i64 x3)] w5 fun e9 w8 =>
      ∃ (p7 : Bool), e9 = .returned (.bool p7) ∧
      (BoolK (!p7)
        (K 5 w8)
        (Calls Try.prog 25 #[(.pointer o1), (.int .i64 x2)] w8 fun e12 w11 =>
          ∃ (o10 : Option Addr), e12 = .returned (.pointer o10) ∧
          (AddrK o10 fun b13 =>
            ∃ (x14 : Int), w11.cell? b13 = some (.int .i64 x14) ∧
            (∃ (J15 : World → Prop),
              (∀ (w16 : World), J15 w16 →
                Calls Try.prog 25 #[(.pointer o1), (.int .i64 x2)] w16 fun e19 w18 =>
                ∃ (o17 : Option Addr), e19 = .returned (.pointer o17) ∧
                (AddrK o17 fun b20 =>
                  ∃ (a21 : Option Addr) (l21 : Nat) (c21 : Nat), w18.cell? (b20.add 6) = some (.slice a21 l21 c21) ∧
                  (Calls Try.prog 29 #[(.slice a21 l21 c21), (.int .i64 x3)] w18 fun e24 w23 =>
                    ∃ (p22 : Bool), e24 = .returned (.bool p22) ∧
                    (BoolK (!p22)
                      (AddrK o17 fun b25 =>
                        ∃ (a26 : Option Addr) (l26 : Nat) (c26 : Nat), w23.cell? (b25.add 6) = some (.slice a26 l26 c26) ∧
                        (AllocK w23 (#[(.int .i64 x3)]) 3 fun b27 w28 =>
                          ∃ (a29 : Option Addr), ∃ (l29 : Nat), ∃ (c29 : Nat), ∃ (w30 : World), Sem.run Try.prog (Builtin.append_ #[26, 26] 26 #[(.slice a26 l26 c26), (.slice (some b27) 1 1)]) w28 = .ok (.slice a29 l29 c29) w30 ∧
                          (AddrK o17 fun b31 =>
                            SetK w30 (b31.add 6) (.slice a29 l29 c29) fun w32 =>
                            AddrK o1 fun b33 =>
                            ∃ (a34 : Option Addr) (l34 : Nat) (c34 : Nat), w32.cell? (b33.add 4) = some (.slice a34 l34 c34) ∧
                            (AllocK w32 (#[(.int .i64 x2), (.int .i64 x3)]) 58 fun b35 w36 =>
                              ∃ (a37 : Option Addr), ∃ (l37 : Nat), ∃ (c37 : Nat), ∃ (w38 : World), Sem.run Try.prog (Builtin.append_ #[44, 44] 44 #[(.slice a34 l34 c34), (.slice (some b35) 1 1)]) w36 = .ok (.slice a37 l37 c37) w38 ∧
                              (AddrK o1 fun b39 =>
                                SetK w38 (b39.add 4) (.slice a37 l37 c37) fun w40 =>
                                K 0 w40)))))
                      (K 0 w23))))) ∧
              (∃ (J41 : Bool → World → Prop),
                (∀ (w42 : World) (p43 : Bool), J41 p43 w42 →
                  BoolK p43
                  (K 5 w42)
                  (Calls Try.prog 17 #[(.pointer o1), (.int .i64 x2)] w42 fun e46 w45 =>
                    ∃ (s44 : ByteArray), e46 = .returned (.string s44) ∧
                    (BoolK (!((s44 : ByteArray).toList == ((⟨#[108, 105, 118, 101]⟩ : ByteArray) : ByteArray).toList))
                      (K 200 w45)
                      (Calls Try.prog 25 #[(.pointer o1), (.int .i64 x3)] w45 fun e49 w48 =>
                        ∃ (o47 : Option Addr), e49 = .returned (.pointer o47) ∧
                        (AddrK o47 fun b50 =>
                          ∃ (x51 : Int), w48.cell? b50 = some (.int .i64 x51) ∧
                          (BoolK ((x51 : Int) == x14)
                            (Calls Try.prog 17 #[(.pointer o1), (.int .i64 x3)] w48 fun e54 w53 =>
                              ∃ (s52 : ByteArray), e54 = .returned (.string s52) ∧
                              (BoolK (!((s52 : ByteArray).toList == ((⟨#[108, 105, 118, 101]⟩ : ByteArray) : ByteArray).toList))
                                (K 200 w53)
                                (J15 w53)))
                            (J15 w48))))))) ∧
                (Calls Try.prog 25 #[(.pointer o1), (.int .i64 x3)] w11 fun e57 w56 =>
                  ∃ (o55 : Option Addr), e57 = .returned (.pointer o55) ∧
                  (AddrK o55 fun b58 =>
                    ∃ (x59 : Int), w56.cell? b58 = some (.int .i64 x59) ∧
                    (BoolK ((x59 : Int) != x14)
                      (AddrK o1 fun b60 =>
                        ∃ (m61 : Option Nat), w56.cell? (b60.add 6) = some (.map m61) ∧
                        (∃ (x62 : Int), ∃ (w63 : World), Sem.run Try.prog (Instr.lookup 45 (.map m61) (.agg #[(.int .i64 x14), (.int .i64 x3)]) false) w56 = .ok (.int .i64 x62) w63 ∧
                          (J41 ((x62 : Int) == 0) w63)))
                      (J41 false w56)))))))))))
def ann10 : Ann := (.two .nil (.two (.two .nil (.two .nil (.two (.two .nil .nil) .nil))) (.two (.two .nil (.two (.two .nil .nil) .nil)) (.two .nil (.cut [] [0, 1, 2] (.one (.cut [(26, (.one .bool))] [0, 1, 2, 8] .nil (.two (.two .nil .nil) (.two .nil (.two (.two .nil .nil) .nil))))) (.two (.two .nil (.two .nil (.two (.two .nil .nil) .nil))) (.two .nil .nil)))))))
noncomputable def code10 : Code := match Try.f10.body with | some c => c | none => .skip
theorem wp10 (o1 : Option Addr) (x2 : Int) (x3 : Int) (K : Int → World → Prop) (w : World) : WP Try.prog tab code10 ann10 (fnQ tab Try.f10.results.toList [(.one (.int .i64))] K) (argE 0 [(.pointer o1), (.int .i64 x2), (.int .i64 x3)]) w = N10 o1 x2 x3 K w := by kernel_rfl
theorem calls10 (o1 : Option Addr) (x2 : Int) (x3 : Int) (K : Int → World → Prop) (w : World) (h : N10 o1 x2 x3 K w) : Calls Try.prog 10 #[(.pointer o1), (.int .i64 x2), (.int .i64 x3)] w fun en w' => ∃ (x64 : Int), en = .returned (.int .i64 x64) ∧ K x64 w' :=
  have e : (fun en w' => ExShs [(.one (.int .i64))] fun vs => en = .returned (tupled vs) ∧ ap [(.one (.int .i64))] K vs fun p => p w') = (fun (en : Ending) (w' : World) => ∃ (x64 : Int), en = .returned (.int .i64 x64) ∧ K x64 w') := by kernel_rfl
  e ▸ fn_sound tabOk mixed Try.func10 (by kernel_rfl : Try.f10.body = some code10) ann10 [(.pointer o1), (.int .i64 x2), (.int .i64 x3)] [(.one (.int .i64))] K w (by kernel_rfl) ((wp10 o1 x2 x3 K w).symm ▸ h)
end Go.Proofs.Ytgggbmikmmljcaa

namespace Go.Proofs.Ytgggbmikmmljcaa
open Go Go.V Go.Proofs
open Go.RowKit (Below)
/-! (*manystrand/count.Count).Loose -/
def N11 (o1 : Option Addr) (x2 : Int) (x3 : Int) (K : Int → World → Prop) (w : World) : Prop :=
  AllocK w (#[(.int .i64 x2)]) 3 fun b4 w5 =>
  AllocK w5 (#[(.int .i64 x3)]) 3 fun b6 w7 =>
  ∃ (x8 : Int), w7.cell? b4 = some (.int .i64 x8) ∧
  (Calls Try.prog 24 #[(.pointer o1), (.int .i64 x8), (.slice none 0 0)] w7 fun e11 w10 =>
    ∃ (x9 : Int), e11 = .returned (.int .i64 x9) ∧
    (BoolK ((x9 : Int) != 0)
      (K x9 w10)
      (∃ (x12 : Int), w10.cell? b4 = some (.int .i64 x12) ∧
        (Calls Try.prog 25 #[(.pointer o1), (.int .i64 x12)] w10 fun e15 w14 =>
          ∃ (o13 : Option Addr), e15 = .returned (.pointer o13) ∧
          (DrewK w14 fun w16 =>
            AddrK o13 fun b17 =>
            ∃ (a18 : Option Addr) (l18 : Nat) (c18 : Nat), w16.cell? (b17.add 6) = some (.slice a18 l18 c18) ∧
            (∃ (x19 : Int), w16.cell? b6 = some (.int .i64 x19) ∧
              (Calls Try.prog 38 #[(.slice a18 l18 c18), (.int .i64 x19)] w16 fun e22 w21 =>
                ∃ (x20 : Int), e22 = .returned (.int .i64 x20) ∧
                (BoolK (decide ((x20 : Int) < 0))
                  (K 5 w21)
                  (AddrK o13 fun b23 =>
                    ∃ (a24 : Option Addr) (l24 : Nat) (c24 : Nat), w21.cell? (b23.add 6) = some (.slice a24 l24 c24) ∧
                    (Calls Try.prog 39 #[(.slice a24 l24 c24), (.int .i64 x20), (.int .i64 (IntKind.wrap .i64 (x20 + 1)))] w21 fun e27 w26 =>
                      ∃ (a25 : Option Addr), ∃ (l25 : Nat), ∃ (c25 : Nat), e27 = .returned (.slice a25 l25 c25) ∧
                      (AddrK o13 fun b28 =>
                        SetK w26 (b28.add 6) (.slice a25 l25 c25) fun w29 =>
                        AddrK o1 fun b30 =>
                        ∃ (a31 : Option Addr) (l31 : Nat) (c31 : Nat), w29.cell? (b30.add 4) = some (.slice a31 l31 c31) ∧
                        (Calls Try.prog 27 #[(.slice a31 l31 c31), (.func (.func 40) #[] #[(.pointer (some b4)), (.pointer (some b6))])] w29 fun e34 w33 =>
                          ∃ (a32 : Option Addr), ∃ (l32 : Nat), ∃ (c32 : Nat), e34 = .returned (.slice a32 l32 c32) ∧
                          (AddrK o1 fun b35 =>
                            SetK w33 (b35.add 4) (.slice a32 l32 c32) fun w36 =>
                            K 0 w36)))))))))))))
def ann11 : Ann := (.two .nil (.two (.two .nil (.two .nil (.two (.two .nil .nil) .nil))) (.two .nil (.two (.any 5 (.take 0 (.take 1 (.take 2 (.take 3 (.take 4 .done)))))) (.two (.two .nil (.two (.two .nil .nil) .nil)) (.two .nil (.two .nil (.two .nil .nil))))))))
noncomputable def code11 : Code := match Try.f11.body with | some c => c | none => .skip
theorem wp11 (o1 : Option Addr) (x2 : Int) (x3 : Int) (K : Int → World → Prop) (w : World) : WP Try.prog tab code11 ann11 (fnQ tab Try.f11.results.toList [(.one (.int .i64))] K) (argE 0 [(.pointer o1), (.int .i64 x2), (.int .i64 x3)]) w = N11 o1 x2 x3 K w := by kernel_rfl
theorem calls11 (o1 : Option Addr) (x2 : Int) (x3 : Int) (K : Int → World → Prop) (w : World) (h : N11 o1 x2 x3 K w) : Calls Try.prog 11 #[(.pointer o1), (.int .i64 x2), (.int .i64 x3)] w fun en w' => ∃ (x37 : Int), en = .returned (.int .i64 x37) ∧ K x37 w' :=
  have e : (fun en w' => ExShs [(.one (.int .i64))] fun vs => en = .returned (tupled vs) ∧ ap [(.one (.int .i64))] K vs fun p => p w') = (fun (en : Ending) (w' : World) => ∃ (x37 : Int), en = .returned (.int .i64 x37) ∧ K x37 w') := by kernel_rfl
  e ▸ fn_sound tabOk mixed Try.func11 (by kernel_rfl : Try.f11.body = some code11) ann11 [(.pointer o1), (.int .i64 x2), (.int .i64 x3)] [(.one (.int .i64))] K w (by kernel_rfl) ((wp11 o1 x2 x3 K w).symm ▸ h)
end Go.Proofs.Ytgggbmikmmljcaa

namespace Go.Proofs.Ytgggbmikmmljcaa
open Go Go.V Go.Proofs
open Go.RowKit (Below)
/-! (*manystrand/count.Count).Tick -/
def N14 (o1 : Option Addr) (x2 : Int) (K : Int → World → Prop) (w : World) : Prop :=
  Calls Try.prog 22 #[(.pointer o1)] w fun e5 w4 =>
  ∃ (p3 : Bool), e5 = .returned (.bool p3) ∧
  (BoolK p3
    (K 7 w4)
    (Calls Try.prog 23 #[(.pointer o1), (.int .i64 x2)] w4 fun e8 w7 =>
      ∃ (p6 : Bool), e8 = .returned (.bool p6) ∧
      (BoolK (!p6)
        (K 2 w7)
        (AddrK o1 fun b9 =>
          ∃ (a10 : Option Addr) (l10 : Nat) (c10 : Nat), w7.cell? (b9.add 3) = some (.slice a10 l10 c10) ∧
          ((0 ≤ (x2 : Int) ∧ (x2 : Int) < (l10 : Nat)) ∧
            AddrK a10 fun b11 =>
            ∃ (x12 : Int), w7.cell? (b11.add ((x2 : Int).toNat * 1)) = some (.int .i64 x12) ∧
            ((0 ≤ (x2 : Int) ∧ (x2 : Int) < (l10 : Nat)) ∧
              AddrK a10 fun b13 =>
              SetK w7 (b13.add ((x2 : Int).toNat * 1)) (.int .i64 (IntKind.wrap .i64 (x12 + 1))) fun w14 =>
              ∃ (I15 : Int → World → Prop) (μ16 : Int → World → Nat),
              (I15 1 w14 ∧ True) ∧
              ∀ (w17 : World) (x18 : Int), I15 x18 w17 →
              AddrK o1 fun b19 =>
              ∃ (a20 : Option Addr) (l20 : Nat) (c20 : Nat), w17.cell? (b19.add 5) = some (.slice a20 l20 c20) ∧
              (BoolK (decide ((x18 : Int) ≤ (l20 : Nat)))
                (Calls Try.prog 25 #[(.pointer o1), (.int .i64 x18)] w17 fun e23 w22 =>
                  ∃ (o21 : Option Addr), e23 = .returned (.pointer o21) ∧
                  (∃ (J24 : World → Prop),
                    (∀ (w25 : World), J24 w25 →
                      DrewK w25 fun w26 =>
                      AddrK o21 fun b27 =>
                      ∃ (x28 : Int), w26.cell? b27 = some (.int .i64 x28) ∧
                      (BoolK ((x28 : Int) == x2)
                        (AddrK o21 fun b29 =>
                          ∃ (x30 : Int), w26.cell? (b29.add 2) = some (.int .i64 x30) ∧
                          (BoolK ((x30 : Int) != 0)
                            (AddrK o1 fun b31 =>
                              ∃ (a32 : Option Addr) (l32 : Nat) (c32 : Nat), w26.cell? (b31.add 3) = some (.slice a32 l32 c32) ∧
                              ((0 ≤ (x2 : Int) ∧ (x2 : Int) < (l32 : Nat)) ∧
                                AddrK a32 fun b33 =>
                                ∃ (x34 : Int), w26.cell? (b33.add ((x2 : Int).toNat * 1)) = some (.int .i64 x34) ∧
                                (AddrK o21 fun b35 =>
                                  ∃ (x36 : Int), w26.cell? (b35.add 3) = some (.int .i64 x36) ∧
                                  (AddrK o1 fun b37 =>
                                    ∃ (x38 : Int), w26.cell? (b37.add 1) = some (.int .i64 x38) ∧
                                    (AddrK o1 fun b39 =>
                                      ∃ (x40 : Int), w26.cell? (b39.add 2) = some (.int .i64 x40) ∧
                                      (BoolK (decide ((IntKind.wrap .i64 (x34 - x36) : Int) ≥ IntKind.wrap .i64 (x38 + x40)))
                                        (AddrK o21 fun b41 =>
                                          SetK w26 (b41.add 4) (.bool true) fun w42 =>
                                          I15 (IntKind.wrap .i64 (x18 + 1)) w42 ∧ μ16 (IntKind.wrap .i64 (x18 + 1)) w42 < μ16 x18 w17)
                                        (I15 (IntKind.wrap .i64 (x18 + 1)) w26 ∧ μ16 (IntKind.wrap .i64 (x18 + 1)) w26 < μ16 x18 w17)))))))
                            (I15 (IntKind.wrap .i64 (x18 + 1)) w26 ∧ μ16 (IntKind.wrap .i64 (x18 + 1)) w26 < μ16 x18 w17)))
                        (I15 (IntKind.wrap .i64 (x18 + 1)) w26 ∧ μ16 (IntKind.wrap .i64 (x18 + 1)) w26 < μ16 x18 w17))) ∧
                    (AddrK o1 fun b43 =>
                      ∃ (m44 : Option Nat), w22.cell? (b43.add 6) = some (.map m44) ∧
                      (∃ (x45 : Int), ∃ (w46 : World), Sem.run Try.prog (Instr.lookup 45 (.map m44) (.agg #[(.int .i64 x2), (.int .i64 x18)]) false) w22 = .ok (.int .i64 x45) w46 ∧
                        (BoolK (decide ((x45 : Int) > 0))
                          (AddrK o21 fun b47 =>
                            ∃ (x48 : Int), w46.cell? b47 = some (.int .i64 x48) ∧
                            (Calls Try.prog 33 #[(.pointer o1), (.int .i64 x2), (.int .i64 x48), (.string (⟨#[114, 101, 110, 101, 119]⟩ : ByteArray)), (.int .i64 x18), (.int .i64 0)] w46 fun e50 w49 =>
                              e50 = .returned (.tuple #[]) ∧
                              (J24 w49)))
                          (J24 w46))))))
                (K 0 w17))))))))
def ann14 : Ann := (.two .nil (.two (.two .nil (.two (.two .nil .nil) .nil)) (.two (.two .nil (.two (.two .nil .nil) .nil)) (.two .nil (.two (.two .nil (.one (.loop [(5, (.one (.int .i64)))] [0, 1] (.two (.two .nil (.two .nil .nil)) (.two (.one (.two .nil (.cut [] [0, 1, 5, 6] (.two .nil (.two .nil .nil)) (.two (.any 37 (.take 0 (.take 1 (.take 2 (.take 3 (.take 4 (.take 5 (.take 6 (.take 7 (.take 8 (.take 9 (.take 10 (.take 11 (.take 12 (.take 13 (.take 14 (.take 15 (.take 16 (.take 17 (.take 18 (.take 19 (.take 20 (.take 21 (.take 22 (.take 23 (.take 24 (.take 25 (.take 26 (.take 27 (.take 28 (.take 29 (.take 30 (.take 31 (.take 32 (.take 33 (.take 34 (.take 35 (.take 36 .done)))))))))))))))))))))))))))))))))))))) (.two .nil .nil))))) .nil))))) (.two .nil .nil))))))
noncomputable def code14 : Code := match Try.f14.body with | some c => c | none => .skip
theorem wp14 (o1 : Option Addr) (x2 : Int) (K : Int → World → Prop) (w : World) : WP Try.prog tab code14 ann14 (fnQ tab Try.f14.results.toList [(.one (.int .i64))] K) (argE 0 [(.pointer o1), (.int .i64 x2)]) w = N14 o1 x2 K w := by kernel_rfl
theorem calls14 (o1 : Option Addr) (x2 : Int) (K : Int → World → Prop) (w : World) (h : N14 o1 x2 K w) : Calls Try.prog 14 #[(.pointer o1), (.int .i64 x2)] w fun en w' => ∃ (x51 : Int), en = .returned (.int .i64 x51) ∧ K x51 w' :=
  have e : (fun en w' => ExShs [(.one (.int .i64))] fun vs => en = .returned (tupled vs) ∧ ap [(.one (.int .i64))] K vs fun p => p w') = (fun (en : Ending) (w' : World) => ∃ (x51 : Int), en = .returned (.int .i64 x51) ∧ K x51 w') := by kernel_rfl
  e ▸ fn_sound tabOk mixed Try.func14 (by kernel_rfl : Try.f14.body = some code14) ann14 [(.pointer o1), (.int .i64 x2)] [(.one (.int .i64))] K w (by kernel_rfl) ((wp14 o1 x2 K w).symm ▸ h)
end Go.Proofs.Ytgggbmikmmljcaa

namespace Go.Proofs.Ytgggbmikmmljcaa
open Go Go.V Go.Proofs
open Go.RowKit (Below)
/-! (*manystrand/count.Count).Cycles -/
def N18 (o1 : Option Addr) (K : Option Addr → Nat → Nat → World → Prop) (w : World) : Prop :=
  AllocK w (#[(.pointer o1)]) 22 fun b2 w3 =>
  ∃ (o4 : Option Addr), w3.cell? b2 = some (.pointer o4) ∧
  (Calls Try.prog 22 #[(.pointer o4)] w3 fun e7 w6 =>
    ∃ (p5 : Bool), e7 = .returned (.bool p5) ∧
    (BoolK p5
      (K none 0 0 w6)
      (∃ (o8 : Option Addr), w6.cell? b2 = some (.pointer o8) ∧
        (AddrK o8 fun b9 =>
          ∃ (a10 : Option Addr) (l10 : Nat) (c10 : Nat), w6.cell? (b9.add 5) = some (.slice a10 l10 c10) ∧
          ((0 ≤ (IntKind.wrap .i64 ((l10 : Nat) + 1) : Int) ∧ (IntKind.wrap .i64 ((l10 : Nat) + 1) : Int) ≤ IntKind.wrap .i64 ((l10 : Nat) + 1) ∧ ((1 : Nat) : Int) * (IntKind.wrap .i64 ((l10 : Nat) + 1)) ≤ 281474976710656 ∧ (IntKind.wrap .i64 ((l10 : Nat) + 1) : Int) ≤ 9223372036854775807) ∧
            AllocK w6 (madeCells (#[.bool false]) ((IntKind.wrap .i64 ((l10 : Nat) + 1) : Int).toNat * 1)) 4 fun b11 w12 =>
            ∃ (I13 : Int → World → Prop) (μ14 : Int → World → Nat),
            (I13 1 w12 ∧ True) ∧
            ∀ (w15 : World) (x16 : Int), I13 x16 w15 →
            ∃ (o17 : Option Addr), w15.cell? b2 = some (.pointer o17) ∧
            (AddrK o17 fun b18 =>
              ∃ (a19 : Option Addr) (l19 : Nat) (c19 : Nat), w15.cell? (b18.add 5) = some (.slice a19 l19 c19) ∧
              (BoolK (decide ((x16 : Int) ≤ (l19 : Nat)))
                (∃ (o20 : Option Addr), w15.cell? b2 = some (.pointer o20) ∧
                  (Calls Try.prog 17 #[(.pointer o20), (.int .i64 x16)] w15 fun e23 w22 =>
                    ∃ (s21 : ByteArray), e23 = .returned (.string s21) ∧
                    ((0 ≤ (x16 : Int) ∧ (x16 : Int) < ((IntKind.wrap .i64 ((l10 : Nat) + 1) : Int).toNat : Nat)) ∧
                      SetK w22 (b11.add ((x16 : Int).toNat * 1)) (.bool ((s21 : ByteArray).toList == ((⟨#[108, 105, 118, 101]⟩ : ByteArray) : ByteArray).toList)) fun w24 =>
                      I13 (IntKind.wrap .i64 (x16 + 1)) w24 ∧ μ14 (IntKind.wrap .i64 (x16 + 1)) w24 < μ14 x16 w15)))
                (∃ (o25 : Option Addr), w15.cell? b2 = some (.pointer o25) ∧
                  (AddrK o25 fun b26 =>
                    ∃ (a27 : Option Addr) (l27 : Nat) (c27 : Nat), w15.cell? (b26.add 5) = some (.slice a27 l27 c27) ∧
                    ((0 ≤ (IntKind.wrap .i64 ((l27 : Nat) + 1) : Int) ∧ (IntKind.wrap .i64 ((l27 : Nat) + 1) : Int) ≤ IntKind.wrap .i64 ((l27 : Nat) + 1) ∧ ((24 : Nat) : Int) * (IntKind.wrap .i64 ((l27 : Nat) + 1)) ≤ 281474976710656 ∧ (IntKind.wrap .i64 ((l27 : Nat) + 1) : Int) ≤ 9223372036854775807) ∧
                      AllocK w15 (madeCells (#[.slice none 0 0]) ((IntKind.wrap .i64 ((l27 : Nat) + 1) : Int).toNat * 1)) 55 fun b28 w29 =>
                      ∃ (I30 : Int → World → Prop) (μ31 : Int → World → Nat),
                      (I30 1 w29 ∧ True) ∧
                      ∀ (w32 : World) (x33 : Int), I30 x33 w32 →
                      ∃ (o34 : Option Addr), w32.cell? b2 = some (.pointer o34) ∧
                      (AddrK o34 fun b35 =>
                        ∃ (a36 : Option Addr) (l36 : Nat) (c36 : Nat), w32.cell? (b35.add 5) = some (.slice a36 l36 c36) ∧
                        (BoolK (decide ((x33 : Int) ≤ (l36 : Nat)))
                          ((0 ≤ (x33 : Int) ∧ (x33 : Int) < ((IntKind.wrap .i64 ((l10 : Nat) + 1) : Int).toNat : Nat)) ∧
                            ∃ (p37 : Bool), w32.cell? (b11.add ((x33 : Int).toNat * 1)) = some (.bool p37) ∧
                            (BoolK p37
                              (∃ (o38 : Option Addr), w32.cell? b2 = some (.pointer o38) ∧
                                (Calls Try.prog 44 #[(.pointer o38), (.int .i64 x33), (.slice (some b11) ((IntKind.wrap .i64 ((l10 : Nat) + 1) : Int).toNat) ((IntKind.wrap .i64 ((l10 : Nat) + 1) : Int).toNat))] w32 fun e41 w40 =>
                                  ∃ (a39 : Option Addr), ∃ (l39 : Nat), ∃ (c39 : Nat), e41 = .returned (.slice a39 l39 c39) ∧
                                  ((0 ≤ (x33 : Int) ∧ (x33 : Int) < ((IntKind.wrap .i64 ((l27 : Nat) + 1) : Int).toNat : Nat)) ∧
                                    SetK w40 (b28.add ((x33 : Int).toNat * 1)) (.slice a39 l39 c39) fun w42 =>
                                    I30 (IntKind.wrap .i64 (x33 + 1)) w42 ∧ μ31 (IntKind.wrap .i64 (x33 + 1)) w42 < μ31 x33 w32)))
                              (I30 (IntKind.wrap .i64 (x33 + 1)) w32 ∧ μ31 (IntKind.wrap .i64 (x33 + 1)) w32 < μ31 x33 w32)))
                          (∃ (o43 : Option Addr), w32.cell? b2 = some (.pointer o43) ∧
                            (AddrK o43 fun b44 =>
                              ∃ (a45 : Option Addr) (l45 : Nat) (c45 : Nat), w32.cell? (b44.add 5) = some (.slice a45 l45 c45) ∧
                              ((0 ≤ (IntKind.wrap .i64 ((l45 : Nat) + 1) : Int) ∧ (IntKind.wrap .i64 ((l45 : Nat) + 1) : Int) ≤ IntKind.wrap .i64 ((l45 : Nat) + 1) ∧ ((1 : Nat) : Int) * (IntKind.wrap .i64 ((l45 : Nat) + 1)) ≤ 281474976710656 ∧ (IntKind.wrap .i64 ((l45 : Nat) + 1) : Int) ≤ 9223372036854775807) ∧
                                AllocK w32 (madeCells (#[.bool false]) ((IntKind.wrap .i64 ((l45 : Nat) + 1) : Int).toNat * 1)) 4 fun b46 w47 =>
                                ∃ (I48 : Option Addr → Nat → Nat → Int → World → Prop) (μ49 : Option Addr → Nat → Nat → Int → World → Nat),
                                (I48 none 0 0 1 w47 ∧ True) ∧
                                ∀ (w50 : World) (a51 : Option Addr) (l51 : Nat) (c51 : Nat) (x52 : Int), I48 a51 l51 c51 x52 w50 →
                                ∃ (o53 : Option Addr), w50.cell? b2 = some (.pointer o53) ∧
                                (AddrK o53 fun b54 =>
                                  ∃ (a55 : Option Addr) (l55 : Nat) (c55 : Nat), w50.cell? (b54.add 5) = some (.slice a55 l55 c55) ∧
                                  (BoolK (decide ((x52 : Int) ≤ (l55 : Nat)))
                                    ((0 ≤ (x52 : Int) ∧ (x52 : Int) < ((IntKind.wrap .i64 ((l10 : Nat) + 1) : Int).toNat : Nat)) ∧
                                      ∃ (p56 : Bool), w50.cell? (b11.add ((x52 : Int).toNat * 1)) = some (.bool p56) ∧
                                      (BoolK (!p56)
                                        (I48 a51 l51 c51 (IntKind.wrap .i64 (x52 + 1)) w50 ∧ μ49 a51 l51 c51 (IntKind.wrap .i64 (x52 + 1)) w50 < μ49 a51 l51 c51 x52 w50)
                                        ((0 ≤ (x52 : Int) ∧ (x52 : Int) < ((IntKind.wrap .i64 ((l45 : Nat) + 1) : Int).toNat : Nat)) ∧
                                          ∃ (p57 : Bool), w50.cell? (b46.add ((x52 : Int).toNat * 1)) = some (.bool p57) ∧
                                          (BoolK p57
                                            (I48 a51 l51 c51 (IntKind.wrap .i64 (x52 + 1)) w50 ∧ μ49 a51 l51 c51 (IntKind.wrap .i64 (x52 + 1)) w50 < μ49 a51 l51 c51 x52 w50)
                                            ((0 ≤ (x52 : Int) ∧ (x52 : Int) < ((IntKind.wrap .i64 ((l27 : Nat) + 1) : Int).toNat : Nat)) ∧
                                              ∃ (a58 : Option Addr) (l58 : Nat) (c58 : Nat), w50.cell? (b28.add ((x52 : Int).toNat * 1)) = some (.slice a58 l58 c58) ∧
                                              ((0 ≤ (x52 : Int) ∧ (x52 : Int) < (l58 : Nat)) ∧
                                                AddrK a58 fun b59 =>
                                                ∃ (p60 : Bool), w50.cell? (b59.add ((x52 : Int).toNat * 1)) = some (.bool p60) ∧
                                                (BoolK (!p60)
                                                  (I48 a51 l51 c51 (IntKind.wrap .i64 (x52 + 1)) w50 ∧ μ49 a51 l51 c51 (IntKind.wrap .i64 (x52 + 1)) w50 < μ49 a51 l51 c51 x52 w50)
                                                  (∃ (o61 : Option Addr), w50.cell? b2 = some (.pointer o61) ∧
                                                    (AddrK o61 fun b62 =>
                                                      ∃ (a63 : Option Addr) (l63 : Nat) (c63 : Nat), w50.cell? (b62.add 5) = some (.slice a63 l63 c63) ∧
                                                      ((0 ≤ (IntKind.wrap .i64 ((l63 : Nat) + 1) : Int) ∧ (IntKind.wrap .i64 ((l63 : Nat) + 1) : Int) ≤ IntKind.wrap .i64 ((l63 : Nat) + 1) ∧ ((1 : Nat) : Int) * (IntKind.wrap .i64 ((l63 : Nat) + 1)) ≤ 281474976710656 ∧ (IntKind.wrap .i64 ((l63 : Nat) + 1) : Int) ≤ 9223372036854775807) ∧
                                                        AllocK w50 (madeCells (#[.bool false]) ((IntKind.wrap .i64 ((l63 : Nat) + 1) : Int).toNat * 1)) 4 fun b64 w65 =>
                                                        AllocK w65 (#[.slice none 0 0]) 55 fun b66 w67 =>
                                                        SetK w67 b66 (.slice (some b64) ((IntKind.wrap .i64 ((l63 : Nat) + 1) : Int).toNat) ((IntKind.wrap .i64 ((l63 : Nat) + 1) : Int).toNat)) fun w68 =>
                                                        ∃ (I69 : Option Addr → Nat → Nat → Int → World → Prop) (μ70 : Option Addr → Nat → Nat → Int → World → Nat),
                                                        (I69 none 0 0 x52 w68 ∧ True) ∧
                                                        ∀ (w71 : World) (a72 : Option Addr) (l72 : Nat) (c72 : Nat) (x73 : Int), I69 a72 l72 c72 x73 w71 →
                                                        ∃ (o74 : Option Addr), w71.cell? b2 = some (.pointer o74) ∧
                                                        (AddrK o74 fun b75 =>
                                                          ∃ (a76 : Option Addr) (l76 : Nat) (c76 : Nat), w71.cell? (b75.add 5) = some (.slice a76 l76 c76) ∧
                                                          (BoolK (decide ((x73 : Int) ≤ (l76 : Nat)))
                                                            (∃ (J77 : Bool → World → Prop),
                                                              (∀ (w78 : World) (p79 : Bool), J77 p79 w78 →
                                                              BoolK p79
                                                              (∃ (a80 : Option Addr) (l80 : Nat) (c80 : Nat), w78.cell? b66 = some (.slice a80 l80 c80) ∧
                                                              ((0 ≤ (x73 : Int) ∧ (x73 : Int) < (l80 : Nat)) ∧
                                                              AddrK a80 fun b81 =>
                                                              SetK w78 (b81.add ((x73 : Int).toNat * 1)) (.bool true) fun w82 =>
                                                              (0 ≤ (x73 : Int) ∧ (x73 : Int) < ((IntKind.wrap .i64 ((l45 : Nat) + 1) : Int).toNat : Nat)) ∧
                                                              SetK w82 (b46.add ((x73 : Int).toNat * 1)) (.bool true) fun w83 =>
                                                              AllocK w83 (#[(.int .i64 x73)]) 3 fun b84 w85 =>
                                                              ∃ (a86 : Option Addr), ∃ (l86 : Nat), ∃ (c86 : Nat), ∃ (w87 : World), Sem.run Try.prog (Builtin.append_ #[26, 26] 26 #[(.slice a72 l72 c72), (.slice (some b84) 1 1)]) w85 = .ok (.slice a86 l86 c86) w87 ∧
                                                              (I69 a86 l86 c86 (IntKind.wrap .i64 (x73 + 1)) w87 ∧ μ70 a86 l86 c86 (IntKind.wrap .i64 (x73 + 1)) w87 < μ70 a72 l72 c72 x73 w71)))
                                                              (I69 a72 l72 c72 (IntKind.wrap .i64 (x73 + 1)) w78 ∧ μ70 a72 l72 c72 (IntKind.wrap .i64 (x73 + 1)) w78 < μ70 a72 l72 c72 x73 w71)) ∧
                                                              ((0 ≤ (x73 : Int) ∧ (x73 : Int) < ((IntKind.wrap .i64 ((l10 : Nat) + 1) : Int).toNat : Nat)) ∧
                                                              ∃ (p88 : Bool), w71.cell? (b11.add ((x73 : Int).toNat * 1)) = some (.bool p88) ∧
                                                              (BoolK p88
                                                              ((0 ≤ (x52 : Int) ∧ (x52 : Int) < ((IntKind.wrap .i64 ((l27 : Nat) + 1) : Int).toNat : Nat)) ∧
                                                              ∃ (a89 : Option Addr) (l89 : Nat) (c89 : Nat), w71.cell? (b28.add ((x52 : Int).toNat * 1)) = some (.slice a89 l89 c89) ∧
                                                              ((0 ≤ (x73 : Int) ∧ (x73 : Int) < (l89 : Nat)) ∧
                                                              AddrK a89 fun b90 =>
                                                              ∃ (p91 : Bool), w71.cell? (b90.add ((x73 : Int).toNat * 1)) = some (.bool p91) ∧
                                                              (BoolK p91
                                                              ((0 ≤ (x73 : Int) ∧ (x73 : Int) < ((IntKind.wrap .i64 ((l27 : Nat) + 1) : Int).toNat : Nat)) ∧
                                                              ∃ (a92 : Option Addr) (l92 : Nat) (c92 : Nat), w71.cell? (b28.add ((x73 : Int).toNat * 1)) = some (.slice a92 l92 c92) ∧
                                                              ((0 ≤ (x52 : Int) ∧ (x52 : Int) < (l92 : Nat)) ∧
                                                              AddrK a92 fun b93 =>
                                                              ∃ (p94 : Bool), w71.cell? (b93.add ((x52 : Int).toNat * 1)) = some (.bool p94) ∧
                                                              (J77 p94 w71)))
                                                              (J77 false w71))))
                                                              (J77 false w71))))
                                                            (Calls Try.prog 45 #[(.slice a72 l72 c72), (.func (.func 46) #[] #[(.pointer (some b2)), (.pointer (some b66))])] w71 fun e97 w96 =>
                                                              ∃ (p95 : Bool), e97 = .returned (.bool p95) ∧
                                                              (BoolK (!p95)
                                                              (AllocK w96 (#[(.slice a72 l72 c72)]) 26 fun b98 w99 =>
                                                              ∃ (a100 : Option Addr), ∃ (l100 : Nat), ∃ (c100 : Nat), ∃ (w101 : World), Sem.run Try.prog (Builtin.append_ #[37, 37] 37 #[(.slice a51 l51 c51), (.slice (some b98) 1 1)]) w99 = .ok (.slice a100 l100 c100) w101 ∧
                                                              (I48 a100 l100 c100 (IntKind.wrap .i64 (x52 + 1)) w101 ∧ μ49 a100 l100 c100 (IntKind.wrap .i64 (x52 + 1)) w101 < μ49 a51 l51 c51 x52 w50))
                                                              (I48 a51 l51 c51 (IntKind.wrap .i64 (x52 + 1)) w96 ∧ μ49 a51 l51 c51 (IntKind.wrap .i64 (x52 + 1)) w96 < μ49 a51 l51 c51 x52 w50)))))))))))))))
                                    (K a51 l51 c51 w50))))))))))))))))))
def ann18 : Ann := (.two .nil (.two (.two .nil (.two (.two .nil .nil) .nil)) (.two .nil (.two (.two .nil (.one (.loop [(4, (.one (.int .i64)))] [1, 3] (.two (.two .nil (.two .nil .nil)) (.two (.one .nil) .nil))))) (.two .nil (.two (.two .nil (.one (.loop [(6, (.one (.int .i64)))] [1, 3, 5] (.two (.two .nil (.two .nil .nil)) (.two (.one (.two .nil (.two .nil .nil))) .nil))))) (.two .nil (.two .nil (.two (.two .nil (.one (.loop [(7, (.one .slice)), (9, (.one (.int .i64)))] [1, 3, 5, 8] (.two (.two .nil (.two .nil .nil)) (.two (.one (.two (.two .nil (.two .nil .nil)) (.two .nil (.two .nil (.two (.two .nil (.one (.loop [(11, (.one .slice)), (12, (.one (.int .i64)))] [1, 3, 5, 7, 8, 9, 10] (.two (.two .nil (.two .nil .nil)) (.two (.one (.cut [(140, (.one .bool))] [1, 3, 5, 7, 8, 9, 10, 11, 12] .nil (.two (.two .nil .nil) .nil))) .nil))))) (.two .nil (.two .nil .nil))))))) .nil))))) (.two .nil .nil))))))))))
noncomputable def code18 : Code := match Try.f18.body with | some c => c | none => .skip
theorem wp18 (o1 : Option Addr) (K : Option Addr → Nat → Nat → World → Prop) (w : World) : WP Try.prog tab code18 ann18 (fnQ tab Try.f18.results.toList [(.one .slice)] K) (argE 0 [(.pointer o1)]) w = N18 o1 K w := by kernel_rfl
theorem calls18 (o1 : Option Addr) (K : Option Addr → Nat → Nat → World → Prop) (w : World) (h : N18 o1 K w) : Calls Try.prog 18 #[(.pointer o1)] w fun en w' => ∃ (a102 : Option Addr), ∃ (l102 : Nat), ∃ (c102 : Nat), en = .returned (.slice a102 l102 c102) ∧ K a102 l102 c102 w' :=
  have e : (fun en w' => ExShs [(.one .slice)] fun vs => en = .returned (tupled vs) ∧ ap [(.one .slice)] K vs fun p => p w') = (fun (en : Ending) (w' : World) => ∃ (a102 : Option Addr), ∃ (l102 : Nat), ∃ (c102 : Nat), en = .returned (.slice a102 l102 c102) ∧ K a102 l102 c102 w') := by kernel_rfl
  e ▸ fn_sound tabOk mixed Try.func18 (by kernel_rfl : Try.f18.body = some code18) ann18 [(.pointer o1)] [(.one .slice)] K w (by kernel_rfl) ((wp18 o1 K w).symm ▸ h)
end Go.Proofs.Ytgggbmikmmljcaa

namespace Go.Proofs.Ytgggbmikmmljcaa
open Go Go.V Go.Proofs
open Go.RowKit (Below)
/-! (*manystrand/count.Count).Copy -/
def N20 (o1 : Option Addr) (K : Option Addr → World → Prop) (w : World) : Prop :=
  Calls Try.prog 22 #[(.pointer o1)] w fun e4 w3 =>
  ∃ (p2 : Bool), e4 = .returned (.bool p2) ∧
  (BoolK p2
    (K none w3)
    (AddrK o1 fun b5 =>
      ∃ (p6 : Bool), w3.cell? (b5.add 0) = some (.bool p6) ∧
      (∃ (x7 : Int), w3.cell? (b5.add 1) = some (.int .i64 x7) ∧
        (∃ (x8 : Int), w3.cell? (b5.add 2) = some (.int .i64 x8) ∧
          (∃ (a9 : Option Addr) (l9 : Nat) (c9 : Nat), w3.cell? (b5.add 3) = some (.slice a9 l9 c9) ∧
            (∃ (a10 : Option Addr) (l10 : Nat) (c10 : Nat), w3.cell? (b5.add 4) = some (.slice a10 l10 c10) ∧
              (∃ (a11 : Option Addr) (l11 : Nat) (c11 : Nat), w3.cell? (b5.add 5) = some (.slice a11 l11 c11) ∧
                (∃ (m12 : Option Nat), w3.cell? (b5.add 6) = some (.map m12) ∧
                  (∃ (m13 : Option Nat), w3.cell? (b5.add 7) = some (.map m13) ∧
                    (∃ (m14 : Option Nat), w3.cell? (b5.add 8) = some (.map m14) ∧
                      (∃ (m15 : Option Nat), w3.cell? (b5.add 9) = some (.map m15) ∧
                        (∃ (m16 : Option Nat), w3.cell? (b5.add 10) = some (.map m16) ∧
                          (∃ (a17 : Option Addr) (l17 : Nat) (c17 : Nat), w3.cell? (b5.add 11) = some (.slice a17 l17 c17) ∧
                            (AllocK w3 (#[.bool false, .int .i64 0, .int .i64 0, .slice none 0 0, .slice none 0 0, .slice none 0 0, .map none, .map none, .map none, .map none, .map none, .slice none 0 0]) 49 fun b18 w19 =>
                              SetK w19 (b18.add 0) (.bool p6) fun w20 =>
                              SetK w20 (b18.add 1) (.int .i64 x7) fun w21 =>
                              SetK w21 (b18.add 2) (.int .i64 x8) fun w22 =>
                              SetK w22 (b18.add 3) (.slice a9 l9 c9) fun w23 =>
                              SetK w23 (b18.add 4) (.slice a10 l10 c10) fun w24 =>
                              SetK w24 (b18.add 5) (.slice a11 l11 c11) fun w25 =>
                              SetK w25 (b18.add 6) (.map m12) fun w26 =>
                              SetK w26 (b18.add 7) (.map m13) fun w27 =>
                              SetK w27 (b18.add 8) (.map m14) fun w28 =>
                              SetK w28 (b18.add 9) (.map m15) fun w29 =>
                              SetK w29 (b18.add 10) (.map m16) fun w30 =>
                              SetK w30 (b18.add 11) (.slice a17 l17 c17) fun w31 =>
                              DrewK w31 fun w32 =>
                              AddrK o1 fun b33 =>
                              ∃ (a34 : Option Addr) (l34 : Nat) (c34 : Nat), w32.cell? (b33.add 3) = some (.slice a34 l34 c34) ∧
                              (AddrK o1 fun b35 =>
                                ∃ (a36 : Option Addr) (l36 : Nat) (c36 : Nat), w32.cell? (b35.add 4) = some (.slice a36 l36 c36) ∧
                                (Calls Try.prog 48 #[(.slice a34 l34 c34)] w32 fun e39 w38 =>
                                  ∃ (a37 : Option Addr), ∃ (l37 : Nat), ∃ (c37 : Nat), e39 = .returned (.slice a37 l37 c37) ∧
                                  (Cel w32 w38 ∧
                                    (Calls Try.prog 49 #[(.slice a36 l36 c36)] w38 fun e42 w41 =>
                                      ∃ (a40 : Option Addr), ∃ (l40 : Nat), ∃ (c40 : Nat), e42 = .returned (.slice a40 l40 c40) ∧
                                      (Cel w32 w41 ∧
                                        (SetK w41 (b18.add 3) (.slice a37 l37 c37) fun w43 =>
                                          SetK w43 (b18.add 4) (.slice a40 l40 c40) fun w44 =>
                                          AddrK o1 fun b45 =>
                                          ∃ (a46 : Option Addr) (l46 : Nat) (c46 : Nat), w44.cell? (b45.add 5) = some (.slice a46 l46 c46) ∧
                                          (Calls Try.prog 50 #[(.slice a46 l46 c46)] w44 fun e49 w48 =>
                                            ∃ (a47 : Option Addr), ∃ (l47 : Nat), ∃ (c47 : Nat), e49 = .returned (.slice a47 l47 c47) ∧
                                            (SetK w48 (b18.add 5) (.slice a47 l47 c47) fun w50 =>
                                              ∃ (a51 : Option Addr) (l51 : Nat) (c51 : Nat), w50.cell? (b18.add 5) = some (.slice a51 l51 c51) ∧
                                              (∃ (I52 : Int → World → Prop) (μ53 : Int → World → Nat),
                                                (I52 0 w50 ∧ True) ∧
                                                ∀ (w54 : World) (x55 : Int), I52 x55 w54 →
                                                BoolK (decide ((x55 : Int) < (l51 : Nat)))
                                                (DrewK w54 fun w56 =>
                                                  ∃ (a57 : Option Addr) (l57 : Nat) (c57 : Nat), w56.cell? (b18.add 5) = some (.slice a57 l57 c57) ∧
                                                  (∃ (a58 : Option Addr) (l58 : Nat) (c58 : Nat), w56.cell? (b18.add 5) = some (.slice a58 l58 c58) ∧
                                                    ((0 ≤ (x55 : Int) ∧ (x55 : Int) < (l58 : Nat)) ∧
                                                      AddrK a58 fun b59 =>
                                                      ∃ (a60 : Option Addr) (l60 : Nat) (c60 : Nat), w56.cell? ((b59.add ((x55 : Int).toNat * 7)).add 6) = some (.slice a60 l60 c60) ∧
                                                      (Calls Try.prog 48 #[(.slice a60 l60 c60)] w56 fun e63 w62 =>
                                                        ∃ (a61 : Option Addr), ∃ (l61 : Nat), ∃ (c61 : Nat), e63 = .returned (.slice a61 l61 c61) ∧
                                                        (Cel w56 w62 ∧
                                                          ((0 ≤ (x55 : Int) ∧ (x55 : Int) < (l57 : Nat)) ∧
                                                            AddrK a57 fun b64 =>
                                                            SetK w62 ((b64.add ((x55 : Int).toNat * 7)).add 6) (.slice a61 l61 c61) fun w65 =>
                                                            I52 (IntKind.wrap .i64 (x55 + 1)) w65 ∧ μ53 (IntKind.wrap .i64 (x55 + 1)) w65 < μ53 x55 w54))))))
                                                (AddrK o1 fun b66 =>
                                                  ∃ (m67 : Option Nat), w54.cell? (b66.add 6) = some (.map m67) ∧
                                                  (Calls Try.prog 51 #[(.map m67)] w54 fun e70 w69 =>
                                                    ∃ (m68 : Option Nat), e70 = .returned (.map m68) ∧
                                                    (SetK w69 (b18.add 6) (.map m68) fun w71 =>
                                                      DrewK w71 fun w72 =>
                                                      AddrK o1 fun b73 =>
                                                      ∃ (m74 : Option Nat), w72.cell? (b73.add 7) = some (.map m74) ∧
                                                      (AddrK o1 fun b75 =>
                                                        ∃ (m76 : Option Nat), w72.cell? (b75.add 8) = some (.map m76) ∧
                                                        (AddrK o1 fun b77 =>
                                                          ∃ (m78 : Option Nat), w72.cell? (b77.add 9) = some (.map m78) ∧
                                                          (Calls Try.prog 52 #[(.map m74)] w72 fun e81 w80 =>
                                                            ∃ (m79 : Option Nat), e81 = .returned (.map m79) ∧
                                                            (Cel w72 w80 ∧
                                                              (Calls Try.prog 52 #[(.map m76)] w80 fun e84 w83 =>
                                                              ∃ (m82 : Option Nat), e84 = .returned (.map m82) ∧
                                                              (Cel w72 w83 ∧
                                                              (Calls Try.prog 52 #[(.map m78)] w83 fun e87 w86 =>
                                                              ∃ (m85 : Option Nat), e87 = .returned (.map m85) ∧
                                                              (Cel w72 w86 ∧
                                                              (SetK w86 (b18.add 7) (.map m79) fun w88 =>
                                                              SetK w88 (b18.add 8) (.map m82) fun w89 =>
                                                              SetK w89 (b18.add 9) (.map m85) fun w90 =>
                                                              ∃ (m91 : Option Nat), ∃ (w92 : World), Sem.run Try.prog (Instr.makeMap 47 none) w90 = .ok (.map m91) w92 ∧
                                                              (SetK w92 (b18.add 10) (.map m91) fun w93 =>
                                                              False))))))))))))))))))))))))))))))))))))
def ann20 : Ann := (.two .nil (.two (.two .nil (.two (.two .nil .nil) .nil)) (.two .nil (.two (.any 11 (.take 0 (.take 1 (.take 2 (.take 3 (.take 5 (.take 6 (.take 7 (.take 8 (.one 4 (.one 9 (.take 10 .done)))))))))))) (.two .nil (.two (.two .nil (.one (.loop [(33, (.one (.int .i64)))] [0, 3, 32] (.two .nil (.two (.two .nil .nil) (.two (.one (.two .nil (.any 12 (.take 0 (.take 1 (.take 2 (.take 3 (.take 4 (.take 5 (.take 6 (.take 7 (.take 8 (.one 9 (.take 10 (.take 11 .done))))))))))))))) .nil)))))) (.two .nil (.two (.any 16 (.take 0 (.take 1 (.take 2 (.take 3 (.take 5 (.take 6 (.take 7 (.take 8 (.take 10 (.take 11 (.take 12 (.take 13 (.one 4 (.one 9 (.one 14 (.take 15 .done))))))))))))))))) (.two .nil (.two .nil (.two .nil (.two .nil .nil))))))))))))
noncomputable def code20 : Code := match Try.f20.body with | some c => c | none => .skip
theorem wp20 (o1 : Option Addr) (K : Option Addr → World → Prop) (w : World) : WP Try.prog tab code20 ann20 (fnQ tab Try.f20.results.toList [(.one .ptr)] K) (argE 0 [(.pointer o1)]) w = N20 o1 K w := by kernel_rfl
theorem calls20 (o1 : Option Addr) (K : Option Addr → World → Prop) (w : World) (h : N20 o1 K w) : Calls Try.prog 20 #[(.pointer o1)] w fun en w' => ∃ (o94 : Option Addr), en = .returned (.pointer o94) ∧ K o94 w' :=
  have e : (fun en w' => ExShs [(.one .ptr)] fun vs => en = .returned (tupled vs) ∧ ap [(.one .ptr)] K vs fun p => p w') = (fun (en : Ending) (w' : World) => ∃ (o94 : Option Addr), en = .returned (.pointer o94) ∧ K o94 w') := by kernel_rfl
  e ▸ fn_sound tabOk mixed Try.func20 (by kernel_rfl : Try.f20.body = some code20) ann20 [(.pointer o1)] [(.one .ptr)] K w (by kernel_rfl) ((wp20 o1 K w).symm ▸ h)
end Go.Proofs.Ytgggbmikmmljcaa

namespace Go.Proofs.Ytgggbmikmmljcaa
open Go Go.V Go.Proofs
open Go.RowKit (Below)
section
variable (w : World) (x y z : Int)
theorem nNone : Calls Try.prog 22 #[.pointer none] w fun en w' => ∃ p, en = .returned (.bool p) ∧ (p = true ∧ w' = w) := calls22 none _ w ⟨rfl, rfl⟩
theorem nUsable (a : Option Addr) (l c : Nat) : Calls Try.prog 24 #[.pointer none, .int .i64 x, .slice a l c] w fun en w' => ∃ e, en = .returned (.int .i64 e) ∧ (e = 7 ∧ w' = w) := by
  refine calls24 none _ _ _ _ _ w ((nNone w).mono ?_)
  rintro en w5 ⟨p, rfl, rfl, rfl⟩
  exact ⟨_, rfl, BoolK.mk (fun _ => ⟨rfl, rfl⟩) (fun t => by cases t)⟩
theorem nMake : Calls Try.prog 4 #[.pointer none, .int .i64 x] w fun en w' => ∃ n e, en = .returned (.tuple #[.int .i64 n, .int .i64 e]) ∧ (e = 7 ∧ Ext w w') := by
  refine calls4 none _ (fun _ e w' => e = 7 ∧ Ext w w') w ((nNone w).mono ?_)
  rintro en w5 ⟨p, rfl, rfl, rfl⟩
  exact ⟨_, rfl, BoolK.mk (fun _ => ⟨rfl, Ext.refl _⟩) (fun t => by cases t)⟩
theorem nOut : Calls Try.prog 5 #[.pointer none, .int .i64 x] w fun en w' => ∃ n e, en = .returned (.tuple #[.int .i64 n, .int .i64 e]) ∧ (e = 7 ∧ Ext w w') := by
  refine calls5 none _ (fun _ e w' => e = 7 ∧ Ext w w') w ((nUsable w _ _ _ _).mono ?_)
  rintro en w5 ⟨e, rfl, rfl, rfl⟩
  exact ⟨_, rfl, BoolK.mk (fun _ => ⟨rfl, Ext.refl _⟩) (fun t => by cases t)⟩
theorem nSweep : Calls Try.prog 6 #[.pointer none, .int .i64 x] w fun en w' => ∃ a l c e, en = .returned (.tuple #[.slice a l c, .int .i64 e]) ∧ (e = 7 ∧ Ext w w') := by
  refine calls6 none _ (fun _ _ _ e w' => e = 7 ∧ Ext w w') w ?_
  refine AllocK.mk fun b w4 hb hB hx => AllocK.mk fun b5 w6 hb5 hB5 hx5 => ?_
  refine ⟨none, by rw [(hB.ext hx5).cell]; rfl, (nNone w6).mono ?_⟩
  rintro en w5 ⟨p, rfl, rfl, rfl⟩
  exact ⟨_, rfl, BoolK.mk (fun _ => ⟨rfl, hx.trans hx5⟩) (fun t => by cases t)⟩
theorem nAsk : Calls Try.prog 7 #[.pointer none, .int .i64 x, .int .i64 y] w fun en w' => ∃ e, en = .returned (.int .i64 e) ∧ (e = 7 ∧ Ext w w') := by
  refine calls7 none _ _ (fun e w' => e = 7 ∧ Ext w w') w (AllocK.mk fun b w4 hb hB hx => (nUsable w4 _ _ _ _).mono ?_)
  rintro en w5 ⟨e, rfl, rfl, rfl⟩
  exact ⟨_, rfl, BoolK.mk (fun _ => ⟨rfl, hx⟩) (fun t => by cases t)⟩
theorem nPass : Calls Try.prog 8 #[.pointer none, .int .i64 x, .int .i64 y, .int .i64 z] w fun en w' => ∃ e, en = .returned (.int .i64 e) ∧ (e = 7 ∧ Ext w w') := by
  refine calls8 none _ _ _ (fun e w' => e = 7 ∧ Ext w w') w (AllocK.mk fun b w4 hb hB hx => (nUsable w4 _ _ _ _).mono ?_)
  rintro en w5 ⟨e, rfl, rfl, rfl⟩
  exact ⟨_, rfl, BoolK.mk (fun _ => ⟨rfl, hx⟩) (fun t => by cases t)⟩
theorem nDrop : Calls Try.prog 9 #[.pointer none, .int .i64 x, .int .i64 y] w fun en w' => ∃ e, en = .returned (.int .i64 e) ∧ (e = 7 ∧ Ext w w') := by
  refine calls9 none _ _ (fun e w' => e = 7 ∧ Ext w w') w (AllocK.mk fun b w4 hb hB hx => (nUsable w4 _ _ _ _).mono ?_)
  rintro en w5 ⟨e, rfl, rfl, rfl⟩
  exact ⟨_, rfl, BoolK.mk (fun _ => ⟨rfl, hx⟩) (fun t => by cases t)⟩
theorem nHold : Calls Try.prog 10 #[.pointer none, .int .i64 x, .int .i64 y] w fun en w' => ∃ e, en = .returned (.int .i64 e) ∧ (e = 7 ∧ Ext w w') := by
  refine calls10 none _ _ (fun e w' => e = 7 ∧ Ext w w') w ((nUsable w _ _ _ _).mono ?_)
  rintro en w5 ⟨e, rfl, rfl, rfl⟩
  exact ⟨_, rfl, BoolK.mk (fun _ => ⟨rfl, Ext.refl _⟩) (fun t => by cases t)⟩
theorem nLoose : Calls Try.prog 11 #[.pointer none, .int .i64 x, .int .i64 y] w fun en w' => ∃ e, en = .returned (.int .i64 e) ∧ (e = 7 ∧ Ext w w') := by
  refine calls11 none _ _ (fun e w' => e = 7 ∧ Ext w w') w ?_
  refine AllocK.mk fun b w4 hb hB hx => AllocK.mk fun b5 w6 hb5 hB5 hx5 => ?_
  refine ⟨x, by rw [(hB.ext hx5).cell]; rfl, (nUsable w6 _ _ _ _).mono ?_⟩
  rintro en w5 ⟨e, rfl, rfl, rfl⟩
  exact ⟨_, rfl, BoolK.mk (fun _ => ⟨rfl, hx.trans hx5⟩) (fun t => by cases t)⟩
theorem nRemove : Calls Try.prog 41 #[.pointer none, .int .i64 x] w fun en w' =>
    ∃ x3 x4 s5 x6 x7 x8 x9 a10 l10 c10 x11, en = .returned (.tuple #[.agg #[.int .i64 x3, .int .i64 x4, .string s5, .int .i64 x6, .int .i64 x7, .int .i64 x8, .int .i64 x9, .slice a10 l10 c10], .int .i64 x11]) ∧ (x11 = 7 ∧ Ext w w') := by
  refine calls41 none _ (fun x3 x4 s5 x6 x7 x8 x9 a10 l10 c10 x11 w' => x11 = 7 ∧ Ext w w') w ?_
  refine AllocK.mk fun b w4 hb hB hx4 => (nNone w4).mono ?_
  rintro en w5 ⟨p, rfl, rfl, rfl⟩
  refine ⟨_, rfl, BoolK.mk (fun _ => ?_) (fun t => by cases t)⟩
  refine Go.Proofs.Ytgggbmikmmljcaa.set8 hB rfl fun w31 h31 but => ?_
  have bx31 : BX (fun _ => none) w31 b _ _ := ⟨h31, rfl⟩
  exact ⟨_, bx31.at_ 0 rfl, _, bx31.at_ 1 rfl, _, bx31.at_ 2 rfl, _, bx31.at_ 3 rfl, _, bx31.at_ 4 rfl, _, bx31.at_ 5 rfl, _, bx31.at_ 6 rfl, _, _, _, bx31.at_ 7 rfl, rfl, but.below hx4 (by omega)⟩
theorem nDrops : Calls Try.prog 13 #[.pointer none, .int .i64 x] w fun en w' => ∃ e, en = .returned (.int .i64 e) ∧ (e = 7 ∧ Ext w w') := by
  refine calls13 none _ (fun e w' => e = 7 ∧ Ext w w') w ((nRemove w x).mono ?_)
  rintro en w12 ⟨x3, x4, s5, x6, x7, x8, x9, a10, l10, c10, x11, rfl, rfl, hx⟩
  refine ⟨_, _, _, _, _, _, _, _, _, _, _, rfl, AllocK.mk fun b w4 hb hB hx4 => ?_⟩
  exact Go.Proofs.Ytgggbmikmmljcaa.set8 hB rfl fun w23 _ but => ⟨rfl, but.below (hx.trans hx4) (by have := hx.size; omega)⟩
theorem nDeliver : Calls Try.prog 12 #[.pointer none, .int .i64 x] w fun en w' => ∃ e, en = .returned (.int .i64 e) ∧ (e = 7 ∧ Ext w w') := by
  refine calls12 none _ (fun e w' => e = 7 ∧ Ext w w') w ((nRemove w x).mono ?_)
  rintro en w12 ⟨x3, x4, s5, x6, x7, x8, x9, a10, l10, c10, x11, rfl, rfl, hx⟩
  refine ⟨_, _, _, _, _, _, _, _, _, _, _, rfl, AllocK.mk fun b w4 hb hB hx4 => ?_⟩
  exact Go.Proofs.Ytgggbmikmmljcaa.set8 hB rfl fun w23 _ but => BoolK.mk (fun _ => ⟨rfl, but.below (hx.trans hx4) (by have := hx.size; omega)⟩) (fun t => by cases t)
theorem nTick : Calls Try.prog 14 #[.pointer none, .int .i64 x] w fun en w' => ∃ e, en = .returned (.int .i64 e) ∧ (e = 7 ∧ Ext w w') := by
  refine calls14 none _ (fun e w' => e = 7 ∧ Ext w w') w ((nNone w).mono ?_)
  rintro en w5 ⟨p, rfl, rfl, rfl⟩
  exact ⟨_, rfl, BoolK.mk (fun _ => ⟨rfl, Ext.refl _⟩) (fun t => by cases t)⟩
theorem nWeight : Calls Try.prog 15 #[.pointer none, .int .i64 x, .int .i64 y] w fun en w' => ∃ e, en = .returned (.int .i64 e) ∧ (e = 0 ∧ Ext w w') := by
  refine calls15 none _ _ (fun e w' => e = 0 ∧ Ext w w') w ((nNone w).mono ?_)
  rintro en w5 ⟨p, rfl, rfl, rfl⟩
  exact ⟨_, rfl, BoolK.mk (fun _ => ⟨rfl, Ext.refl _⟩) (fun t => by cases t)⟩
theorem nFlying : Calls Try.prog 16 #[.pointer none] w fun en w' => ∃ a l c, en = .returned (.slice a l c) ∧ (l = 0 ∧ Ext w w') := by
  refine calls16 none (fun _ l _ w' => l = 0 ∧ Ext w w') w ((nNone w).mono ?_)
  rintro en w5 ⟨p, rfl, rfl, rfl⟩
  exact ⟨_, rfl, BoolK.mk (fun _ => ⟨rfl, Ext.refl _⟩) (fun t => by cases t)⟩
theorem nState : Calls Try.prog 17 #[.pointer none, .int .i64 x] w fun en w' => ∃ s, en = .returned (.string s) ∧ (s = ⟨#[]⟩ ∧ Ext w w') := by
  refine calls17 none _ (fun s w' => s = ⟨#[]⟩ ∧ Ext w w') w ?_
  refine ⟨fun p w' => p = true ∧ w' = w, ?_, (nNone w).mono ?_⟩
  · rintro w4 p ⟨rfl, rfl⟩
    exact BoolK.mk (fun _ => ⟨rfl, Ext.refl _⟩) (fun t => by cases t)
  · rintro en w5 ⟨p, rfl, rfl, rfl⟩
    exact ⟨_, rfl, BoolK.mk (fun _ => ⟨rfl, rfl⟩) (fun t => by cases t)⟩
theorem nCycles : Calls Try.prog 18 #[.pointer none] w fun en w' => ∃ a l c, en = .returned (.slice a l c) ∧ (l = 0 ∧ Ext w w') := by
  refine calls18 none (fun _ l _ w' => l = 0 ∧ Ext w w') w (AllocK.mk fun b w4 hb hB hx => ⟨none, by rw [hB.cell]; rfl, (nNone w4).mono ?_⟩)
  rintro en w5 ⟨p, rfl, rfl, rfl⟩
  exact ⟨_, rfl, BoolK.mk (fun _ => ⟨rfl, hx⟩) (fun t => by cases t)⟩
theorem nHolds : Calls Try.prog 19 #[.pointer none, .int .i64 x, .int .i64 y] w fun en w' => ∃ p, en = .returned (.bool p) ∧ (p = false ∧ Ext w w') := by
  refine calls19 none _ _ (fun p w' => p = false ∧ Ext w w') w ((nNone w).mono ?_)
  rintro en w5 ⟨p, rfl, rfl, rfl⟩
  exact ⟨_, rfl, BoolK.mk (fun _ => ⟨rfl, Ext.refl _⟩) (fun t => by cases t)⟩
theorem nCopy : Calls Try.prog 20 #[.pointer none] w fun en w' => ∃ o, en = .returned (.pointer o) ∧ (o = none ∧ Ext w w') := by
  refine calls20 none (fun o w' => o = none ∧ Ext w w') w ((nNone w).mono ?_)
  rintro en w5 ⟨p, rfl, rfl, rfl⟩
  exact ⟨_, rfl, BoolK.mk (fun _ => ⟨rfl, Ext.refl _⟩) (fun t => by cases t)⟩
theorem c3 : Calls Try.prog 3 #[.int .i64 x, .int .i64 y] w fun en w' => ∃ p, en = .returned (.bool p) ∧ (p = true ∧ Ext w w') := by
  refine calls3 _ _ (fun p w' => p = true ∧ Ext w w') w ((nMake w x).mono ?_)
  rintro en w1 ⟨_, _, rfl, rfl, h1⟩
  refine ⟨_, _, rfl, (nOut w1 x).mono ?_⟩
  rintro en w2 ⟨_, _, rfl, rfl, h2⟩
  refine ⟨_, _, rfl, (nSweep w2 x).mono ?_⟩
  rintro en w3 ⟨_, _, _, _, rfl, rfl, h3⟩
  refine ⟨_, _, _, _, rfl, (nAsk w3 x y).mono ?_⟩
  rintro en w4 ⟨_, rfl, rfl, h4⟩
  refine ⟨_, rfl, (nPass w4 x y x).mono ?_⟩
  rintro en w5 ⟨_, rfl, rfl, h5⟩
  refine ⟨_, rfl, (nDrop w5 x y).mono ?_⟩
  rintro en w6 ⟨_, rfl, rfl, h6⟩
  refine ⟨_, rfl, (nHold w6 x y).mono ?_⟩
  rintro en w7 ⟨_, rfl, rfl, h7⟩
  refine ⟨_, rfl, (nLoose w7 x y).mono ?_⟩
  rintro en w8 ⟨_, rfl, rfl, h8⟩
  refine ⟨_, rfl, (nDeliver w8 x).mono ?_⟩
  rintro en w9 ⟨_, rfl, rfl, h9⟩
  refine ⟨_, rfl, (nDrops w9 x).mono ?_⟩
  rintro en w10 ⟨_, rfl, rfl, h10⟩
  refine ⟨_, rfl, (nTick w10 x).mono ?_⟩
  rintro en w11 ⟨_, rfl, rfl, h11⟩
  have hx : Ext w w11 := ((((((((((h1.trans h2).trans h3).trans h4).trans h5).trans h6).trans h7).trans h8).trans h9).trans h10).trans h11)
  refine ⟨_, rfl, AllocK.mk fun b w12 hb hB hx12 => ?_⟩
  have hx := hx.trans hx12
  refine ⟨fun i w' => ∃ k : Nat, i = k ∧ k ≤ 11 ∧ w' = w12, fun i _ => 11 - i.toNat, ⟨⟨0, rfl, by omega, rfl⟩, trivial⟩, ?_⟩
  rintro w43 i ⟨k, rfl, hk, rfl⟩
  refine BoolK.mk (fun t => ?_) (fun _ => ?_)
  · have t := of_decide_eq_true t
    have hc : (#[Value.int .i64 7, .int .i64 7, .int .i64 7, .int .i64 7, .int .i64 7, .int .i64 7, .int .i64 7, .int .i64 7, .int .i64 7, .int .i64 7, .int .i64 7] : Array Value)[k]? = some (.int .i64 7) := by
      have : k < 11 := by omega
      match k, this with
      | 0, _ | 1, _ | 2, _ | 3, _ | 4, _ | 5, _ | 6, _ | 7, _ | 8, _ | 9, _ | 10, _ => rfl
    refine ⟨⟨by omega, by omega⟩, 7, by rw [add_mk, Nat.zero_add, Int.toNat_natCast, Nat.mul_one, hB.cell]; exact hc, BoolK.mk (fun t => by cases t) (fun _ => ?_)⟩
    rw [wrap_succ (by omega)]
    exact ⟨⟨k + 1, rfl, by omega, rfl⟩, by simp; omega⟩
  refine (nWeight w43 x y).mono ?_
  rintro en w13 ⟨_, rfl, rfl, h13⟩
  refine ⟨_, rfl, BoolK.mk (fun _ => (nFlying w13).mono ?_) (fun t => by cases t)⟩
  rintro en w14 ⟨_, _, _, rfl, rfl, h14⟩
  refine ⟨_, _, _, rfl, BoolK.mk (fun _ => (nState w14 x).mono ?_) (fun t => by cases t)⟩
  rintro en w15 ⟨_, rfl, rfl, h15⟩
  refine ⟨_, rfl, BoolK.mk (fun _ => (nCycles w15).mono ?_) (fun t => by rw [bl_eq] at t; cases t)⟩
  rintro en w16 ⟨_, _, _, rfl, rfl, h16⟩
  refine ⟨_, _, _, rfl, BoolK.mk (fun _ => (nHolds w16 x y).mono ?_) (fun t => by cases t)⟩
  rintro en w17 ⟨_, rfl, rfl, h17⟩
  refine ⟨_, rfl, BoolK.mk (fun _ => (nCopy w17).mono ?_) (fun t => by cases t)⟩
  rintro en w18 ⟨_, rfl, rfl, h18⟩
  refine ⟨_, rfl, BoolK.mk (fun _ => (c21 w18).mono ?_) (fun t => by cases t)⟩
  rintro en w19 ⟨_, rfl, rfl, h19⟩
  exact ⟨_, rfl, rfl, ((((((hx.trans h13).trans h14).trans h15).trans h16).trans h17).trans h18).trans h19⟩
end
end Go.Proofs.Ytgggbmikmmljcaa
