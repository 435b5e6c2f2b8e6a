/- A part of the proof: plain forms of functions and laws about them. -/
import Derived.Test.YtggfnakhmjkoeaaEntaE
namespace Go.Proofs.Ytggfnakhmjkoeaa
open Go Go.V Go.Proofs
open Go.RowKit (Below)

/-! ### Products -/
def prodM (f : Nat → Nat) (m : Nat → Bool) : Nat → Nat
  | 0 => 1
  | n + 1 => prodM f m n * (if m n then f n else 1)
theorem prodM_congr {f : Nat → Nat} {m m' : Nat → Bool} : ∀ n, (∀ i, i < n → m i = m' i) → prodM f m n = prodM f m' n
  | 0, _ => rfl
  | n + 1, h => by rw [prodM, prodM, prodM_congr n fun i hi => h i (by omega), h n (by omega)]
theorem prodM_none {f : Nat → Nat} {m : Nat → Bool} : ∀ n, (∀ i, i < n → m i = false) → prodM f m n = 1
  | 0, _ => rfl
  | n + 1, h => by rw [prodM, prodM_none n fun i hi => h i (by omega), h n (by omega)]; rfl
theorem prodM_set {f : Nat → Nat} {m : Nat → Bool} {x : Nat} (hm : m x = false) : ∀ n, x < n → prodM f (fun y => m y || decide (y = x)) n = prodM f m n * f x
  | 0, h => by omega
  | n + 1, h => by
    rw [prodM, prodM]
    by_cases hx : x = n
    · subst hx
      rw [prodM_congr (m' := m) x fun i hi => by rw [decide_eq_false (by omega), Bool.or_false], hm]; simp
    · rw [prodM_set hm n (by omega), decide_eq_false (fun e => hx e.symm), Bool.or_false]
      rw [Nat.mul_assoc, Nat.mul_assoc, Nat.mul_comm (f x)]
theorem prodM_mono {f : Nat → Nat} {m m' : Nat → Bool} : ∀ n, (∀ i, i < n → 1 ≤ f i) → (∀ i, i < n → m i = true → m' i = true) → prodM f m n ≤ prodM f m' n
  | 0, _, _ => Nat.le_refl _
  | n + 1, hf, h => by
    rw [prodM, prodM]
    refine Nat.mul_le_mul (prodM_mono n (fun i hi => hf i (by omega)) fun i hi => h i (by omega)) ?_
    cases hm : m n with
    | false =>
      simp only [Bool.false_eq_true, if_false]
      split
      · exact hf n (by omega)
      · exact Nat.le_refl _
    | true => rw [h n (by omega) hm]; exact Nat.le_refl _
def prodL (f : Nat → Nat) : List Int → Nat
  | [] => 1
  | x :: xs => f x.toNat * prodL f xs
theorem prodL_append (f : Nat → Nat) (a b : List Int) : prodL f (a ++ b) = prodL f a * prodL f b := by
  induction a with
  | nil => simp [prodL]
  | cons x xs ih => simp [prodL, ih, Nat.mul_assoc]
theorem prodL_pos {f : Nat → Nat} : ∀ (l : List Int), (∀ x ∈ l, 1 ≤ f x.toNat) → 1 ≤ prodL f l
  | [], _ => Nat.le_refl _
  | x :: xs, h => Nat.mul_le_mul (h x List.mem_cons_self) (prodL_pos xs fun y hy => h y (List.mem_cons_of_mem _ hy))
/-- the places below k that are asked, ascending -/
def plR (m : Nat → Bool) : Nat → List Int
  | 0 => []
  | k + 1 => plR m k ++ if m k then [(k : Int)] else []
theorem plR_prod (f : Nat → Nat) (m : Nat → Bool) : ∀ k, prodL f (plR m k) = prodM f m k
  | 0 => rfl
  | k + 1 => by
    rw [plR, prodL_append, plR_prod f m k, prodM]
    cases m k <;> simp [prodL]
theorem plR_mem (m : Nat → Bool) : ∀ k (x : Int), x ∈ plR m k ↔ (0 ≤ x ∧ x < (k : Int) ∧ m x.toNat = true)
  | 0, x => by simp [plR]; omega
  | k + 1, x => by
    rw [plR, List.mem_append, plR_mem m k x]
    constructor
    · rintro (h | h)
      · exact ⟨h.1, by omega, h.2.2⟩
      · split at h
        · rename_i hm; simp at h; subst h; exact ⟨by omega, by omega, by simpa using hm⟩
        · cases h
    · rintro ⟨h1, h2, h3⟩
      rcases Int.lt_or_le x k with h | h
      · exact .inl ⟨h1, h, h3⟩
      · have : x = k := by omega
        subst this
        right; simp at h3; simp [h3]
theorem plR_len (m : Nat → Bool) : ∀ k, (plR m k).length ≤ k
  | 0 => by simp [plR]
  | k + 1 => by have := plR_len m k; rw [plR, List.length_append]; split <;> simp <;> omega

/-- is y the place of one of the first k variables? -/
def memV (vars : List Int) (k y : Nat) : Bool := (List.range k).any fun j => decide (px vars j = y)
theorem memV_iff (vars : List Int) (k y : Nat) : memV vars k y = true ↔ ∃ j, j < k ∧ px vars j = y := by
  simp only [memV, List.any_eq_true, List.mem_range, decide_eq_true_eq]
theorem memV_succ (vars : List Int) (k y : Nat) : memV vars (k + 1) y = (memV vars k y || decide (px vars k = y)) := by
  rw [memV, List.range_succ, List.any_append]; simp [memV]
def szF (ls : List Dm) (y : Nat) : Nat := sizeS (at' ls y)
theorem szF_pos {ls : List Dm} (hV : VDs ls) (hf : failedB ls = false) {y : Nat} (hy : y < ls.length) : 1 ≤ szF ls y := by
  have hv := hV.at y
  have hne : at' ls y ≠ [] := fun e => by
    have : failedB ls = true := by
      simp only [failedB, List.any_eq_true, decide_eq_true_eq]
      exact ⟨_, List.getElem_mem hy, by rw [← at_get hy]; exact e⟩
    rw [hf] at this; cases this
  obtain ⟨v, hv2⟩ := (ne_nil_iff hv).1 hne
  have := (mem_vals _ _).2 hv2
  rw [szF, sizeS, (validB_iff _).2 hv, if_pos rfl]
  exact List.length_pos_of_mem this
theorem szF_le {ls : List Dm} (hV : VDs ls) (y : Nat) : szF ls y ≤ 1001 := by
  have hv := hV.at y
  rw [szF, sizeS, (validB_iff _).2 hv, if_pos rfl]; exact hv.vals_len

/-- the propagator holds for all values of its places -/
def EntP (p : PropS) (ls : List Dm) : Prop := ∀ us : List Int, us.length = ls.length → (∀ j, j < p.vars.length → InS ls (px p.vars j) (us.getD (px p.vars j) 0)) → (∀ y, (∀ j, j < p.vars.length → px p.vars j ≠ y) → us.getD y 0 = 0) → holdsS p us = true
theorem entP_of {p : PropS} {ls : List Dm} {pl : List Int} (h : ∀ y, (∃ x ∈ pl, x.toNat = y) ↔ ∃ j, j < p.vars.length ∧ px p.vars j = y) : AllP p ls pl (List.replicate ls.length 0) ↔ EntP p ls := by
  have hz : ∀ y, (List.replicate ls.length (0 : Int)).getD y 0 = 0 := fun y => by
    rw [List.getD_eq_getElem?_getD, List.getElem?_replicate]; split <;> rfl
  constructor
  · intro hA us h1 h2 h3
    refine hA us (by simpa using h1) (fun x hx => ?_) fun y hy => ?_
    · obtain ⟨j, hj, he⟩ := (h x.toNat).1 ⟨x, hx, rfl⟩
      rw [← he]; exact h2 j hj
    · rw [hz]
      refine h3 y fun j hj he => ?_
      obtain ⟨x, hx, hxe⟩ := (h y).2 ⟨j, hj, he⟩
      exact hy x hx hxe
  · intro hE us h1 h2 h3
    refine hE us (by simpa using h1) (fun j hj => ?_) fun y hy => ?_
    · obtain ⟨x, hx, he⟩ := (h (px p.vars j)).2 ⟨j, hj, rfl⟩
      rw [← he]; exact h2 x hx
    · refine (h3 y fun x hx he => ?_).trans (hz y)
      obtain ⟨j, hj, hje⟩ := (h y).1 ⟨x, hx, he⟩
      exact hy j hj hje
/-- what Entailed answers -/
def EntRes (p : PropS) (ls : List Dm) (r : Bool) (e : Int) : Prop :=
  if allVB ls && propB p ls.length then
    if failedB ls then r = true ∧ e = 0
    else if 10000 < prodM (szF ls) (memV p.vars p.vars.length) ls.length then r = false ∧ e = 4
    else (r = true ↔ EntP p ls) ∧ e = 0
  else r = false ∧ e = 2
theorem EntRes.eq {p : PropS} {ls : List Dm} {r1 r2 : Bool} {e1 e2 : Int} (h : EntRes p ls r1 e1) (k : EntRes p ls r2 e2) : r1 = r2 ∧ e1 = e2 := by
  unfold EntRes at h k
  split at h
  · rename_i h1
    rw [if_pos h1] at k
    split at h
    · rename_i h2; rw [if_pos h2] at k; exact ⟨h.1.trans k.1.symm, h.2.trans k.2.symm⟩
    · rename_i h2; rw [if_neg h2] at k
      split at h
      · rename_i h3; rw [if_pos h3] at k; exact ⟨h.1.trans k.1.symm, h.2.trans k.2.symm⟩
      · rename_i h3; rw [if_neg h3] at k
        exact ⟨Bool.eq_iff_iff.2 (h.1.trans k.1.symm), h.2.trans k.2.symm⟩
  · rename_i h1; rw [if_neg h1] at k; exact ⟨h.1.trans k.1.symm, h.2.trans k.2.symm⟩

theorem EB.grown {b : Nat} {w0 w w' : World} {row : Option Nat} (h : EB b w0 w) (hg : w.grownBy w' row) (hr : ∀ k, row = some k → w0.heap.size ≤ k) : EB b w0 w' :=
  ⟨hg.os.trans h.os, hg.tape.trans h.tape, hg.output.trans h.output, Nat.le_trans h.size hg.size, fun i hi hne => (hg.block i (Nat.lt_of_lt_of_le hi h.size) fun e => by have := hr i e.symm; omega).trans (h.block i hi hne)⟩
theorem OwnR.cap_le {α : Type} {base : Nat} {e : TypeId} {sz : Nat} {enc : α → List Value} {w : World} {a : Option Addr} {l c : Nat} {xs : List α} (h : OwnR base e sz enc w a l c xs) : l ≤ c := by
  obtain ⟨rfl, h⟩ := h
  rcases h.2 with ⟨hn, h0⟩ | ⟨g, cap, cur, hv, _, _, h1, _⟩
  · simp only [Value.slice.injEq] at hn; omega
  · simp only [Value.slice.injEq] at hv; omega
theorem zeros_arr (n : Nat) : madeCells (#[.int .i64 0]) (n * 1) = arrI (List.replicate n 0) := by
  apply Array.ext'
  rw [Nat.mul_one, toList_madeCells_one]; simp [arrI]

section
variable (w : World) (s : ByteArray) (a2 : Option Addr) (l2 c2 : Nat) (a3 : Option Addr) (l3 c3 : Nat) (x4 : Int) (p : PropS) (h : PropAt w s a2 l2 a3 l3 x4 p)
  (a5 : Option Addr) (l5 c5 : Nat) (ls : List Dm) (hd : Doms w a5 l5 ls) (hl : ls.length ≤ 9223372036854775807) (hs : ∀ d ∈ ls, Sm d)
include h hd hl hs
set_option maxRecDepth 100000 in
theorem c48 : Calls Try.prog 48 #[.agg #[.string s, .slice a2 l2 c2, .slice a3 l3 c3, .int .i64 x4], .slice a5 l5 c5] w fun en w' => ∃ r e, en = .returned (.tuple #[.bool r, .int .i64 e]) ∧ (EntRes p ls r e ∧ Ext w w') := by
  have hl5 := hd.1
  have hvp := h.vars
  have hl2 := hvp.1
  refine calls48 _ _ _ _ _ _ _ _ _ _ _ _ w ?_
  refine AllocK.mk fun b6 w7 hb6 hblk hx7 => ?_
  have hcell := fun (w' : World) (k : Ext w7 w') => blk4 (hblk.ext k)
  refine (c50 w7 a5 l5 c5 ls (hd.ext (RSl.mono RPair.mono) hx7) hl hs).mono ?_
  rintro en w9 ⟨q, rfl, rfl, hx9⟩
  have hB9 := hx7.trans hx9
  refine ⟨_, rfl, BoolK.mk (fun t => ?_) (fun t => ?_)⟩
  · simp at t; exact ⟨by rw [EntRes, t]; exact ⟨rfl, rfl⟩, hB9⟩
  simp at t
  have hc := hcell _ hx9
  refine ⟨_, hc.1, _, _, _, hc.2.1, _, _, _, hc.2.2.1, _, hc.2.2.2, ?_⟩
  rw [hl5]
  refine (c16 w9 _ _ _ _ _ _ _ _ _ p (h.ext hB9)).mono ?_
  rintro en w16 ⟨q, rfl, rfl, hx16⟩
  have hB16 := hB9.trans hx16
  refine ⟨_, rfl, BoolK.mk (fun t2 => ?_) (fun t2 => ?_)⟩
  · simp at t2; exact ⟨by rw [EntRes, t2, Bool.and_false]; exact ⟨rfl, rfl⟩, hB16⟩
  simp at t2
  have hV := (allVB_of t).1
  have h40 := (allVB_of t).2
  have hok := varsOk_of t2
  have hv40 : p.vars.length ≤ 40 := by
    have : kindB (kdOf p.kind) p.vars.length p.coefs.length p.coefs p.n = true := by simp only [propB, Bool.and_eq_true] at t2; exact t2.2
    revert this; cases kdOf p.kind <;> simp [kindB] <;> omega
  have hE : ∀ r e, EntRes p ls r e = if failedB ls then r = true ∧ e = 0 else if 10000 < prodM (szF ls) (memV p.vars p.vars.length) ls.length then r = false ∧ e = 4 else (r = true ↔ EntP p ls) ∧ e = 0 := fun r e => by
    rw [EntRes, t, t2]; rfl
  rw [← hl5]
  refine (c58 w16 a5 l5 c5 ls (hd.ext (RSl.mono RPair.mono) hB16) hl).mono ?_
  rintro en w19 ⟨q, rfl, rfl, hx19⟩
  have hB19 := hB16.trans hx19
  refine ⟨_, rfl, BoolK.mk (fun t3 => ?_) (fun t3 => ?_)⟩
  · exact ⟨by rw [hE, t3]; exact ⟨rfl, rfl⟩, hB19⟩
  have hpos : ∀ y, y < ls.length → 1 ≤ szF ls y := fun y hy => szF_pos hV t3 hy
  have hE2 : ∀ r e, EntRes p ls r e = if 10000 < prodM (szF ls) (memV p.vars p.vars.length) ls.length then r = false ∧ e = 4 else (r = true ↔ EntP p ls) ∧ e = 0 := fun r e => by rw [hE, t3]; rfl
  refine ⟨by omega, AllocK.mk fun b21 w22 hb21 hk21 hx22 => ?_⟩
  have hB22 := hB19.trans hx22
  have h22 := ((hx9.trans hx16).trans hx19).trans hx22
  refine ⟨_, _, _, (hcell _ h22).2.1, ?_⟩
  have hs22 : b21 < w22.heap.size := hk21.lt
  have hw21 : w.heap.size ≤ b21 := by rw [hb21]; exact hB19.size
  have hb6lt : w7.heap.size ≤ b21 := by rw [hb21]; exact ((hx9.trans hx16).trans hx19).size
  refine ⟨fun a l c x i w' => ∃ (k : Nat) (pl : List Int), i = k ∧ k ≤ p.vars.length ∧ OwnR w22.heap.size 3 1 eI w' a l c pl ∧ pl.length ≤ k ∧ (∀ y ∈ pl, 0 ≤ y ∧ y < (ls.length : Int)) ∧ (∀ y, (∃ x ∈ pl, x.toNat = y) ↔ ∃ j, j < k ∧ px p.vars j = y) ∧
      x = (prodM (szF ls) (memV p.vars k) ls.length : Nat) ∧ x ≤ 10000 ∧ (∃ cs, Blk w' b21 cs 4 ∧ cs.size = ls.length ∧ ∀ i, i < ls.length → cs[i]? = some (.bool (memV p.vars k i))) ∧ EB b21 w22 w', fun _ _ _ _ i _ => p.vars.length - i.toNat,
    ⟨⟨0, [], rfl, by omega, OwnR.nil _ _ _ _ _, by simp, by simp, by simp, by rw [prodM_none (m := memV p.vars 0) _ fun i _ => rfl]; rfl, by omega, ⟨_, hk21, by simp [madeCells, hl5], fun i hi => ?_⟩, EB.of_ext (Ext.refl _)⟩, trivial⟩, ?_⟩
  · rw [← Array.getElem?_toList, Nat.mul_one, toList_madeCells_one, List.getElem?_replicate, if_pos (by omega)]; rfl
  rintro w26 a27 l27 c27 _ _ ⟨k, pl, rfl, hk, ho, hpl, hin, hmem, rfl, hle, ⟨cs, hcs, hcn, hcg⟩, hEB⟩
  have hB26 := hEB.ext0 hB22 hw21
  refine BoolK.mk (fun hlt => ?_) (fun hge => ?_)
  · have hlt : k < p.vars.length := by simp at hlt; omega
    obtain ⟨b1, o1, rfl, g1⟩ := intAt hvp w26 hB26 hlt
    have hvk : 0 ≤ p.vars[k] ∧ p.vars[k] < (ls.length : Int) := by
      simp only [propB, Bool.and_eq_true, List.all_eq_true] at t2
      simpa using t2.1.2 _ (List.getElem_mem hlt)
    have hpx : px p.vars k = p.vars[k].toNat := by rw [px, getD_get hlt]
    refine ⟨by omega, ?_⟩
    simp only [AddrK, Int.toNat_natCast, add_mk, Nat.mul_one, Nat.zero_add]
    have hcb : w26.cell? ⟨b21, p.vars[k].toNat, none⟩ = some (.bool (memV p.vars k (px p.vars k))) := by
      rw [hcs.cell, hpx]; exact hcg _ (by omega)
    refine ⟨_, g1, by omega, _, hcb, BoolK.mk (fun t4 => ?_) (fun t4 => ?_)⟩
    · have t4 : memV p.vars k (px p.vars k) = false := by simpa using t4
      refine ⟨by omega, SetK.mk hcs (by omega) fun w33 h33 hbut => ?_⟩
      have ho33 := ho.kept (w' := w33) fun g hg => hbut.block g (by have := (ho.lt g hg).1; omega)
      have hEB33 := hEB.trans (EB.of_but hbut)
      refine OwnR.push p.vars[k] slt22 ho33 hEB33.size eI_len eI_one (by omega) rfl fun a' c' w37 ho' hg _ => ?_
      have hEB37 : EB b21 w22 w37 := hEB33.grown hg fun k hk => (ho33.lt k hk).1
      have hB37 := hEB37.ext0 hB22 hw21
      obtain ⟨b5, o5, a39, l39, c39', rfl, g5, d5⟩ := domsAt hd w37 hB37 (i := p.vars[k].toNat) (by omega)
      refine ⟨by omega, ?_⟩
      simp only [add_mk]
      have dsm := hs _ (List.getElem_mem (show p.vars[k].toNat < ls.length by omega))
      refine ⟨_, _, _, g5, (c39 w37 a39 l39 c39' _ d5 dsm.1).mono ?_⟩
      rintro en w41 ⟨x40, rfl, hx40, hx41⟩
      have hx40 : x40 = (szF ls (px p.vars k) : Nat) := by rw [hx40, szF, hpx, at_get (by omega)]
      subst hx40
      have hz := szF_le hV (px p.vars k)
      have hsucc : prodM (szF ls) (memV p.vars (k + 1)) ls.length = prodM (szF ls) (memV p.vars k) ls.length * szF ls (px p.vars k) := by
        rw [← prodM_set t4 _ (by omega)]
        exact prodM_congr _ fun i _ => by rw [memV_succ]; congr 1; rw [decide_eq_decide]; exact eq_comm
      have hmul : (prodM (szF ls) (memV p.vars k) ls.length : Int) * (szF ls (px p.vars k) : Nat) = (prodM (szF ls) (memV p.vars (k + 1)) ls.length : Nat) := by rw [hsucc, Int.natCast_mul]
      have hbig : prodM (szF ls) (memV p.vars k) ls.length * szF ls (px p.vars k) ≤ 10000 * 1001 := Nat.mul_le_mul (by omega) hz
      refine ⟨_, rfl, ?_⟩
      rw [hmul, wrap_id (by omega) (by omega)]
      refine BoolK.mk (fun t5 => ?_) (fun t5 => ?_)
      · have t5 := of_decide_eq_true t5
        refine ⟨?_, hB37.trans hx41⟩
        have := prodM_mono (f := szF ls) (m := memV p.vars (k + 1)) (m' := memV p.vars p.vars.length) ls.length (fun i hi => hpos i hi) fun i _ hm => by
          obtain ⟨j, hj, he⟩ := (memV_iff _ _ _).1 hm
          exact (memV_iff _ _ _).2 ⟨j, by omega, he⟩
        rw [hE2, if_pos (by omega)]; exact ⟨rfl, rfl⟩
      · have t5 := of_decide_eq_false t5
        rw [wrap_succ (by omega)]
        have hcs41 : Blk w41 b21 (cs.setIfInBounds p.vars[k].toNat (.bool true)) 4 := by
          refine Blk.ext ?_ hx41
          exact (hg.block b21 (h33.lt) fun e => by have := (ho33.lt b21 e.symm).1; omega).trans h33
        refine ⟨⟨k + 1, pl ++ [p.vars[k]], rfl, by omega, by simpa using ho'.ext hx41, by simp; omega, fun y hy => ?_, fun y => ?_, rfl, by omega, ⟨_, hcs41, by simp [hcn], fun i hi => ?_⟩, hEB37.trans (EB.of_ext hx41)⟩, by simp; omega⟩
        · rcases List.mem_append.1 hy with hy | hy
          · exact hin y hy
          · simp at hy; subst hy; exact hvk
        · constructor
          · rintro ⟨x, hx, rfl⟩
            rcases List.mem_append.1 hx with hx | hx
            · obtain ⟨j, hj, he⟩ := (hmem x.toNat).1 ⟨x, hx, rfl⟩
              exact ⟨j, by omega, he⟩
            · simp at hx; subst hx; exact ⟨k, by omega, hpx⟩
          · rintro ⟨j, hj, he⟩
            rcases Nat.lt_or_ge j k with h | h
            · obtain ⟨x, hx, hxe⟩ := (hmem y).2 ⟨j, h, he⟩
              exact ⟨x, List.mem_append_left _ hx, hxe⟩
            · have : j = k := by omega
              subst this
              exact ⟨p.vars[j], by simp, by rw [← hpx]; exact he⟩
        · rw [Array.getElem?_setIfInBounds, memV_succ, hpx]
          by_cases hik : p.vars[k].toNat = i
          · subst hik
            rw [if_pos rfl, if_pos (by omega)]; simp
          · rw [if_neg hik, decide_eq_false hik, Bool.or_false]; exact hcg i hi
    · have t4 : memV p.vars k (px p.vars k) = true := by simpa using t4
      rw [wrap_succ (by omega)]
      have hsame : ∀ i, memV p.vars (k + 1) i = memV p.vars k i := fun i => by
        rw [memV_succ]
        by_cases he : px p.vars k = i
        · subst he; rw [t4]; rfl
        · rw [decide_eq_false he, Bool.or_false]
      refine ⟨⟨k + 1, pl, rfl, by omega, ho, by omega, hin, fun y => ?_, ?_, hle, ⟨cs, hcs, hcn, fun i hi => by rw [hsame]; exact hcg i hi⟩, hEB⟩, by simp; omega⟩
      · rw [hmem y]
        constructor
        · rintro ⟨j, hj, he⟩; exact ⟨j, by omega, he⟩
        · rintro ⟨j, hj, he⟩
          rcases Nat.lt_or_ge j k with h | h
          · exact ⟨j, h, he⟩
          · have : j = k := by omega
            subst this
            obtain ⟨i, hi, hie⟩ := (memV_iff _ _ _).1 t4
            exact ⟨i, hi, hie.trans he⟩
      · rw [prodM_congr (m := memV p.vars (k + 1)) (m' := memV p.vars k) _ fun i _ => hsame i]
  · have : k = p.vars.length := by simp at hge; omega
    subst this
    refine ⟨by omega, ?_⟩
    simp only [Int.toNat_natCast]
    rw [zeros_arr, hl5]
    refine AllocK.mk fun b43 w44 hb43 hk43 hx44 => ?_
    have hc44 : w44.cell? ((⟨b6, 0, none⟩ : Addr).add 0) = some (.string s) ∧ w44.cell? ((⟨b6, 0, none⟩ : Addr).add 1) = some (.slice a2 l2 c2) ∧ w44.cell? ((⟨b6, 0, none⟩ : Addr).add 2) = some (.slice a3 l3 c3) ∧ w44.cell? ((⟨b6, 0, none⟩ : Addr).add 3) = some (.int .i64 x4) := by
      refine hcell w44 (Ext.trans ?_ hx44)
      exact hEB.ext0 h22 hb6lt
    refine ⟨_, hc44.1, _, _, _, hc44.2.1, _, _, _, hc44.2.2.1, _, hc44.2.2.2, ?_⟩
    rw [← hl5]
    have key := c79 p ls hV w26 s a2 l2 c2 a3 l3 c3 x4 (h.ext hB26) a5 l5 c5 (hd.ext (RSl.mono RPair.mono) hB26) b43 ls.length (by omega) pl a27 l27 c27 ho.ints (OwnR.cap_le ho) hin w44 (List.replicate ls.length 0) hx44 hk43 (by simp) (fun x hx => by rw [List.eq_of_mem_replicate hx]; omega)
    rw [← hl5] at key
    refine key.mono ?_
    rintro en w50 ⟨r, rfl, hr, hE50, _⟩
    refine ⟨_, rfl, ?_, hE50.ext0 (hB26.trans hx44) (by have := hB26.size; omega)⟩
    rw [hE2, if_neg (by omega)]
    refine ⟨?_, rfl⟩
    rw [hr, hl5]
    exact entP_of hmem

set_option maxRecDepth 100000 in
theorem c49 : Calls Try.prog 49 #[.agg #[.string s, .slice a2 l2 c2, .slice a3 l3 c3, .int .i64 x4], .slice a5 l5 c5] w fun en w' => ∃ r e, en = .returned (.tuple #[.bool r, .int .i64 e]) ∧ (EntRes p ls r e ∧ Ext w w') := by
  have hl5 := hd.1
  have hvp := h.vars
  have hl2 := hvp.1
  refine calls49 _ _ _ _ _ _ _ _ _ _ _ _ w ?_
  refine AllocK.mk fun b6 w7 hb6 hblk hx7 => ?_
  have hcell := fun (w' : World) (k : Ext w7 w') => blk4 (hblk.ext k)
  refine (c52 w7 a5 l5 c5 ls (hd.ext (RSl.mono RPair.mono) hx7) hl hs).mono ?_
  rintro en w9 ⟨q, rfl, rfl, hx9⟩
  have hB9 := hx7.trans hx9
  refine ⟨_, rfl, BoolK.mk (fun t => ?_) (fun t => ?_)⟩
  · simp at t; exact ⟨by rw [EntRes, t]; exact ⟨rfl, rfl⟩, hB9⟩
  simp at t
  have hc := hcell _ hx9
  refine ⟨_, hc.1, _, _, _, hc.2.1, _, _, _, hc.2.2.1, _, hc.2.2.2, ?_⟩
  rw [hl5]
  refine (c17 w9 _ _ _ _ _ _ _ _ _ p (h.ext hB9)).mono ?_
  rintro en w16 ⟨q, rfl, rfl, hx16⟩
  have hB16 := hB9.trans hx16
  refine ⟨_, rfl, BoolK.mk (fun t2 => ?_) (fun t2 => ?_)⟩
  · simp at t2; exact ⟨by rw [EntRes, t2, Bool.and_false]; exact ⟨rfl, rfl⟩, hB16⟩
  simp at t2
  have hV := (allVB_of t).1
  have h40 := (allVB_of t).2
  have hok := varsOk_of t2
  have hv40 : p.vars.length ≤ 40 := by
    have : kindB (kdOf p.kind) p.vars.length p.coefs.length p.coefs p.n = true := by simp only [propB, Bool.and_eq_true] at t2; exact t2.2
    revert this; cases kdOf p.kind <;> simp [kindB] <;> omega
  have hE : ∀ r e, EntRes p ls r e = if failedB ls then r = true ∧ e = 0 else if 10000 < prodM (szF ls) (memV p.vars p.vars.length) ls.length then r = false ∧ e = 4 else (r = true ↔ EntP p ls) ∧ e = 0 := fun r e => by
    rw [EntRes, t, t2]; rfl
  rw [← hl5]
  refine (c47 w16 a5 l5 c5 ls (hd.ext (RSl.mono RPair.mono) hB16) hl).mono ?_
  rintro en w19 ⟨q, rfl, rfl, hx19⟩
  have hB19 := hB16.trans hx19
  have h19 := (hx9.trans hx16).trans hx19
  refine ⟨_, rfl, BoolK.mk (fun t3 => ?_) (fun t3 => ?_)⟩
  · exact ⟨by rw [hE, t3]; exact ⟨rfl, rfl⟩, hB19⟩
  have hpos : ∀ y, y < ls.length → 1 ≤ szF ls y := fun y hy => szF_pos hV t3 hy
  have hE2 : ∀ r e, EntRes p ls r e = if 10000 < prodM (szF ls) (memV p.vars p.vars.length) ls.length then r = false ∧ e = 4 else (r = true ↔ EntP p ls) ∧ e = 0 := fun r e => by rw [hE, t3]; rfl
  generalize hM : memV p.vars p.vars.length = M at hE2
  have hvk : ∀ k (hk : k < p.vars.length), 0 ≤ p.vars[k] ∧ p.vars[k] < (ls.length : Int) := fun k hk => by
    simp only [propB, Bool.and_eq_true, List.all_eq_true] at t2
    simpa using t2.1.2 _ (List.getElem_mem hk)
  have hpx : ∀ k (hk : k < p.vars.length), px p.vars k = p.vars[k].toNat := fun k hk => by rw [px, getD_get hk]
  refine ⟨fun a l c x w' => ∃ k : Nat, x = k ∧ k ≤ ls.length ∧ OwnR w19.heap.size 3 1 eI w' a l c (plR M k) ∧ Ext w19 w', fun _ _ _ x _ => ls.length - x.toNat,
    ⟨⟨0, rfl, by omega, OwnR.nil _ _ _ _ _, Ext.refl _⟩, trivial⟩, ?_⟩
  rintro w23 a24 l24 c24 _ ⟨k, rfl, hk, ho, hx23⟩
  refine BoolK.mk (fun hlt => ?_) (fun hge => ?_)
  · have hlt : k < ls.length := by simp at hlt; omega
    refine ⟨fun a l c x w' => ∃ j : Nat, x = j ∧ j ≤ p.vars.length ∧ OwnR w19.heap.size 3 1 eI w' a l c (plR M k ++ if memV p.vars j k then [(k : Int)] else []) ∧ Ext w19 w', fun _ _ _ x _ => p.vars.length - x.toNat,
      ⟨⟨0, rfl, by omega, by simpa [memV] using ho, hx23⟩, trivial⟩, ?_⟩
    rintro w28 a29 l29 c29 _ ⟨j, rfl, hj, ho28, hx28⟩
    have hc28 := hcell w28 (h19.trans hx28)
    refine ⟨_, _, _, hc28.2.1, BoolK.mk (fun hlt2 => ?_) (fun hge2 => ?_)⟩
    · have hlt2 : j < p.vars.length := by simp at hlt2; omega
      obtain ⟨b1, o1, rfl, g1⟩ := intAt hvp w28 (hB19.trans hx28) hlt2
      have e29 := ho28.1
      have hlen := plR_len M k
      refine ⟨fun q w' => w' = w28 ∧ (q = true ↔ (p.vars[j] = (k : Int) ∧ memV p.vars j k = false)), ?_, ?_⟩
      · rintro w33 q ⟨rfl, hq⟩
        refine BoolK.mk (fun t4 => ?_) (fun t4 => ?_)
        · obtain ⟨q1, q2⟩ := hq.1 t4
          rw [q2] at ho28
          simp only [Bool.false_eq_true, if_false, List.append_nil] at ho28
          refine OwnR.push (k : Int) slt22 ho28 hx28.size eI_len eI_one (by omega) rfl fun a' c' w38 ho' hg _ => ?_
          rw [wrap_succ (by omega)]
          refine ⟨⟨j + 1, rfl, by omega, ?_, Below.trans hx28 (ho28.below hx28.size hg)⟩, by simp; omega⟩
          rw [memV_succ, q2, hpx j hlt2, decide_eq_true (by omega)]
          simpa using ho'
        · have hn : ¬ (p.vars[j] = (k : Int) ∧ memV p.vars j k = false) := fun h => by rw [hq.2 h] at t4; cases t4
          rw [wrap_succ (by omega)]
          refine ⟨⟨j + 1, rfl, by omega, ?_, hx28⟩, by simp; omega⟩
          have : memV p.vars (j + 1) k = memV p.vars j k := by
            rw [memV_succ, hpx j hlt2]
            have := hvk j hlt2
            by_cases he : p.vars[j].toNat = k
            · cases hm : memV p.vars j k with
              | true => rfl
              | false => exact absurd ⟨by omega, hm⟩ hn
            · rw [decide_eq_false he, Bool.or_false]
          rw [this]; exact ho28
      · refine ⟨_, _, _, hc28.2.1, by omega, ?_⟩
        simp only [AddrK, Int.toNat_natCast, add_mk, Nat.mul_one]
        refine ⟨_, g1, BoolK.mk (fun t4 => BoolK.mk (fun t5 => ?_) (fun t5 => ?_)) (fun t4 => ?_)⟩
        · have t4 : p.vars[j] = (k : Int) := by simpa using t4
          refine ⟨trivial, ⟨fun _ => ⟨t4, ?_⟩, fun _ => trivial⟩⟩
          cases hm : memV p.vars j k with
          | false => rfl
          | true => rw [hm] at e29; simp at e29 t5; omega
        · have t4 : p.vars[j] = (k : Int) := by simpa using t4
          have hl1 : 1 ≤ l29 := by simp at t5; omega
          cases hm : memV p.vars j k with
          | true =>
            rw [hm, if_pos rfl] at ho28 e29
            rw [List.length_append, List.length_singleton] at e29
            rw [wrap_id (by omega) (by omega)]
            obtain ⟨b9, o9, rfl, g9⟩ := intAt ho28.ints w28 (Ext.refl _) (i := ((l29 : Int) - 1).toNat) (by simp; omega)
            refine ⟨by omega, ?_⟩
            simp only [add_mk]
            refine ⟨_, g9, trivial, ?_⟩
            have hlast : (plR M k ++ [(k : Int)])[((l29 : Int) - 1).toNat]'(by simp; omega) = (k : Int) := by
              rw [List.getElem_append_right (by omega)]; simp
            rw [hlast]; simp
          | false =>
            rw [hm] at ho28 e29
            simp only [Bool.false_eq_true, if_false, List.append_nil] at ho28 e29
            rw [wrap_id (by omega) (by omega)]
            have hlt3 : ((l29 : Int) - 1).toNat < (plR M k).length := by omega
            obtain ⟨b9, o9, rfl, g9⟩ := intAt ho28.ints w28 (Ext.refl _) hlt3
            refine ⟨by omega, ?_⟩
            simp only [add_mk]
            refine ⟨_, g9, trivial, ?_⟩
            have := (plR_mem M k _).1 (List.getElem_mem hlt3)
            have hne : (plR M k)[((l29 : Int) - 1).toNat] ≠ (k : Int) := by omega
            exact ⟨fun _ => ⟨t4, trivial⟩, fun _ => bne_iff_ne.2 hne⟩
        · have t4 : p.vars[j] ≠ (k : Int) := by simpa using t4
          exact ⟨trivial, ⟨(fun h => by cases h), fun h => absurd h.1 t4⟩⟩
    · have : j = p.vars.length := by simp at hge2; omega
      subst this
      rw [wrap_succ (by omega)]
      refine ⟨⟨k + 1, rfl, by omega, ?_, hx28⟩, by simp; omega⟩
      rw [plR, ← hM]; rw [← hM] at ho28; exact ho28
  · have : k = ls.length := by simp at hge; omega
    subst this
    have hmemP : ∀ y, (∃ x ∈ plR M ls.length, x.toNat = y) ↔ ∃ j, j < p.vars.length ∧ px p.vars j = y := fun y => by
      constructor
      · rintro ⟨x, hx, rfl⟩
        have := ((plR_mem M _ x).1 hx).2.2
        rw [← hM] at this; exact (memV_iff _ _ _).1 this
      · rintro ⟨j, hj, rfl⟩
        have := hvk j hj
        refine ⟨p.vars[j], (plR_mem M _ _).2 ⟨by omega, by omega, ?_⟩, (hpx j hj).symm⟩
        rw [← hM, memV_iff]; exact ⟨j, hj, hpx j hj⟩
    have hin : ∀ y ∈ plR M ls.length, 0 ≤ y ∧ y < (ls.length : Int) := fun y hy => by have := (plR_mem M _ y).1 hy; exact ⟨this.1, this.2.1⟩
    have hlen := plR_len M ls.length
    have hprod := plR_prod (szF ls) M ls.length
    generalize plR M ls.length = pl at ho hmemP hin hlen hprod
    have e24 := ho.1
    have hpp : ∀ x ∈ pl, 1 ≤ szF ls x.toNat := fun x hx => hpos _ (by have := hin x hx; omega)
    have hle : ∀ j, prodL (szF ls) (pl.take j) ≤ prodL (szF ls) pl := fun j => by
      have e : pl = pl.take j ++ pl.drop j := (List.take_append_drop j pl).symm
      have h1 := prodL_append (szF ls) (pl.take j) (pl.drop j)
      rw [← e] at h1
      rw [h1]
      have := prodL_pos (f := szF ls) (pl.drop j) fun x hx => hpp x (List.mem_of_mem_drop hx)
      exact Nat.le_mul_of_pos_right _ this
    refine ⟨fun x i w' => ∃ j : Nat, i = j ∧ j ≤ pl.length ∧ x = (prodL (szF ls) (pl.take j) : Nat) ∧ x ≤ 10000 ∧ Ext w23 w', fun _ i _ => pl.length - i.toNat, ⟨⟨0, rfl, by omega, rfl, by omega, Ext.refl _⟩, trivial⟩, ?_⟩
    rintro w46 _ _ ⟨j, rfl, hj, rfl, hsm, hx46⟩
    have hB46 := (hB19.trans hx23).trans hx46
    have ho46 := ho.ext hx46
    refine BoolK.mk (fun hlt2 => ?_) (fun hge2 => ?_)
    · have hlt2 : j < pl.length := by simp at hlt2; omega
      obtain ⟨b9, o9, rfl, g9⟩ := intAt ho46.ints w46 (Ext.refl _) hlt2
      have hj1 := hin _ (List.getElem_mem hlt2)
      refine ⟨by omega, ?_⟩
      simp only [AddrK, Int.toNat_natCast, add_mk, Nat.mul_one]
      obtain ⟨b5, o5, a52, l52, c52', rfl, g5, d5⟩ := domsAt hd w46 hB46 (i := pl[j].toNat) (by omega)
      refine ⟨_, g9, by omega, ?_⟩
      simp only [add_mk]
      have dsm := hs _ (List.getElem_mem (show pl[j].toNat < ls.length by omega))
      refine ⟨_, _, _, g5, (c40 w46 a52 l52 c52' _ d5 dsm).mono ?_⟩
      rintro en w54 ⟨x53, rfl, hx53, hx54⟩
      have hx53 : x53 = (szF ls pl[j].toNat : Nat) := by rw [hx53, szF, at_get (by omega)]
      subst hx53
      have hz := szF_le hV pl[j].toNat
      have htk : pl.take (j + 1) = pl.take j ++ [pl[j]] := by rw [List.take_add_one, List.getElem?_eq_getElem hlt2]; rfl
      have hsucc : prodL (szF ls) (pl.take (j + 1)) = prodL (szF ls) (pl.take j) * szF ls pl[j].toNat := by rw [htk, prodL_append]; simp [prodL]
      have hmul : (prodL (szF ls) (pl.take j) : Int) * (szF ls pl[j].toNat : Nat) = (prodL (szF ls) (pl.take (j + 1)) : Nat) := by rw [hsucc, Int.natCast_mul]
      have hbig : prodL (szF ls) (pl.take j) * szF ls pl[j].toNat ≤ 10000 * 1001 := Nat.mul_le_mul (by omega) hz
      refine ⟨_, rfl, ?_⟩
      rw [hmul, wrap_id (by omega) (by omega)]
      refine BoolK.mk (fun t5 => ?_) (fun t5 => ?_)
      · have t5 := of_decide_eq_true t5
        refine ⟨?_, hB46.trans hx54⟩
        have := hle (j + 1)
        rw [hE2, if_pos (by rw [← hprod]; omega)]; exact ⟨rfl, rfl⟩
      · have t5 := of_decide_eq_false t5
        rw [wrap_succ (by omega)]
        exact ⟨⟨j + 1, rfl, by omega, rfl, by omega, hx46.trans hx54⟩, by simp; omega⟩
    · have : j = pl.length := by simp at hge2; omega
      subst this
      rw [List.take_length] at hsm
      refine ⟨by omega, ?_⟩
      simp only [Int.toNat_natCast]
      rw [zeros_arr, hl5]
      refine AllocK.mk fun b43 w44 hb43 hk43 hx44 => ?_
      have hc44 := hcell w44 (((h19.trans hx23).trans hx46).trans hx44)
      refine ⟨_, hc44.1, _, _, _, hc44.2.1, _, _, _, hc44.2.2.1, _, hc44.2.2.2, ?_⟩
      rw [← hl5]
      have key := c80 p ls hV w46 s a2 l2 c2 a3 l3 c3 x4 (h.ext hB46) a5 l5 c5 (hd.ext (RSl.mono RPair.mono) hB46) b43 ls.length (by omega) pl a24 l24 c24 ho46.ints (OwnR.cap_le ho46) hin w44 (List.replicate ls.length 0) hx44 hk43 (by simp) (fun x hx => by rw [List.eq_of_mem_replicate hx]; omega)
      rw [← hl5] at key
      refine key.mono ?_
      rintro en w50 ⟨r, rfl, hr, hE50, _⟩
      refine ⟨_, rfl, ?_, hE50.ext0 (hB46.trans hx44) (by have := hB46.size; omega)⟩
      rw [hE2, if_neg (by rw [← hprod]; omega)]
      refine ⟨?_, rfl⟩
      rw [hr, hl5]
      exact entP_of hmemP
end
end Go.Proofs.Ytggfnakhmjkoeaa

namespace Go.Proofs.Ytggfnakhmjkoeaa
open Go Go.V Go.Proofs
open Go.RowKit (Below)
/-! manystrand/manystrandlaw06.DomainEntails -/
def N10 (s1 : ByteArray) (a2 : Option Addr) (l2 : Nat) (c2 : Nat) (a3 : Option Addr) (l3 : Nat) (c3 : Nat) (x4 : Int) (a5 : Option Addr) (l5 : Nat) (c5 : Nat) (K : Bool → World → Prop) (w : World) : Prop :=
  AllocK w (#[(.string s1), (.slice a2 l2 c2), (.slice a3 l3 c3), (.int .i64 x4)]) 24 fun b6 w7 =>
  ∃ (s8 : ByteArray), w7.cell? (b6.add 0) = some (.string s8) ∧
  (∃ (a9 : Option Addr) (l9 : Nat) (c9 : Nat), w7.cell? (b6.add 1) = some (.slice a9 l9 c9) ∧
    (∃ (a10 : Option Addr) (l10 : Nat) (c10 : Nat), w7.cell? (b6.add 2) = some (.slice a10 l10 c10) ∧
      (∃ (x11 : Int), w7.cell? (b6.add 3) = some (.int .i64 x11) ∧
        (AllocK w7 (#[(.string s8), (.slice a9 l9 c9), (.slice a10 l10 c10), (.int .i64 x11)]) 24 fun b12 w13 =>
          Calls Try.prog 11 #[(.slice a5 l5 c5), (.slice (some b12) 1 1)] w13 fun e16 w15 =>
          ∃ (p14 : Bool), e16 = .returned (.bool p14) ∧
          (BoolK (!p14)
            (Calls Try.prog 12 #[] w15 fun e19 w18 =>
              ∃ (p17 : Bool), e19 = .returned (.bool p17) ∧
              (K p17 w18))
            (∃ (s20 : ByteArray), w15.cell? (b6.add 0) = some (.string s20) ∧
              (∃ (a21 : Option Addr) (l21 : Nat) (c21 : Nat), w15.cell? (b6.add 1) = some (.slice a21 l21 c21) ∧
                (∃ (a22 : Option Addr) (l22 : Nat) (c22 : Nat), w15.cell? (b6.add 2) = some (.slice a22 l22 c22) ∧
                  (∃ (x23 : Int), w15.cell? (b6.add 3) = some (.int .i64 x23) ∧
                    (Calls Try.prog 48 #[(.agg #[(.string s20), (.slice a21 l21 c21), (.slice a22 l22 c22), (.int .i64 x23)]), (.slice a5 l5 c5)] w15 fun e27 w26 =>
                      ∃ (p24 : Bool), ∃ (x25 : Int), e27 = .returned (.tuple #[(.bool p24), (.int .i64 x25)]) ∧
                      (∃ (s28 : ByteArray), w26.cell? (b6.add 0) = some (.string s28) ∧
                        (∃ (a29 : Option Addr) (l29 : Nat) (c29 : Nat), w26.cell? (b6.add 1) = some (.slice a29 l29 c29) ∧
                          (∃ (a30 : Option Addr) (l30 : Nat) (c30 : Nat), w26.cell? (b6.add 2) = some (.slice a30 l30 c30) ∧
                            (∃ (x31 : Int), w26.cell? (b6.add 3) = some (.int .i64 x31) ∧
                              (Calls Try.prog 49 #[(.agg #[(.string s28), (.slice a29 l29 c29), (.slice a30 l30 c30), (.int .i64 x31)]), (.slice a5 l5 c5)] w26 fun e35 w34 =>
                                ∃ (p32 : Bool), ∃ (x33 : Int), e35 = .returned (.tuple #[(.bool p32), (.int .i64 x33)]) ∧
                                (BoolK (p24 == p32)
                                  (BoolK ((x25 : Int) == x33)
                                    (Calls Try.prog 12 #[] w34 fun e38 w37 =>
                                      ∃ (p36 : Bool), e38 = .returned (.bool p36) ∧
                                      (K p36 w37))
                                    (K false w34))
                                  (K false w34)))))))))))))))))
def ann10 : Ann := (.two .nil (.two (.two .nil (.two (.two .nil .nil) .nil)) (.two .nil (.two .nil (.two .nil .nil)))))
noncomputable def code10 : Code := match Try.f10.body with | some c => c | none => .skip
theorem wp10 (s1 : ByteArray) (a2 : Option Addr) (l2 : Nat) (c2 : Nat) (a3 : Option Addr) (l3 : Nat) (c3 : Nat) (x4 : Int) (a5 : Option Addr) (l5 : Nat) (c5 : Nat) (K : Bool → World → Prop) (w : World) : WP Try.prog tab code10 ann10 (fnQ tab Try.f10.results.toList [(.one .bool)] K) (argE 0 [(.agg #[(.string s1), (.slice a2 l2 c2), (.slice a3 l3 c3), (.int .i64 x4)]), (.slice a5 l5 c5)]) w = N10 s1 a2 l2 c2 a3 l3 c3 x4 a5 l5 c5 K w := by kernel_rfl
theorem calls10 (s1 : ByteArray) (a2 : Option Addr) (l2 : Nat) (c2 : Nat) (a3 : Option Addr) (l3 : Nat) (c3 : Nat) (x4 : Int) (a5 : Option Addr) (l5 : Nat) (c5 : Nat) (K : Bool → World → Prop) (w : World) (h : N10 s1 a2 l2 c2 a3 l3 c3 x4 a5 l5 c5 K w) : Calls Try.prog 10 #[(.agg #[(.string s1), (.slice a2 l2 c2), (.slice a3 l3 c3), (.int .i64 x4)]), (.slice a5 l5 c5)] w fun en w' => ∃ (p39 : Bool), en = .returned (.bool p39) ∧ K p39 w' :=
  have e : (fun en w' => ExShs [(.one .bool)] fun vs => en = .returned (tupled vs) ∧ ap [(.one .bool)] K vs fun p => p w') = (fun (en : Ending) (w' : World) => ∃ (p39 : Bool), en = .returned (.bool p39) ∧ K p39 w') := by kernel_rfl
  e ▸ fn_sound tabOk mixed Try.func10 (by kernel_rfl : Try.f10.body = some code10) ann10 [(.agg #[(.string s1), (.slice a2 l2 c2), (.slice a3 l3 c3), (.int .i64 x4)]), (.slice a5 l5 c5)] [(.one .bool)] K w (by kernel_rfl) ((wp10 s1 a2 l2 c2 a3 l3 c3 x4 a5 l5 c5 K w).symm ▸ h)
end Go.Proofs.Ytggfnakhmjkoeaa

namespace Go.Proofs.Ytggfnakhmjkoeaa
open Go Go.V Go.Proofs
open Go.RowKit (Below)

theorem c10 (w : World) (s : ByteArray) (a2 : Option Addr) (l2 c2 : Nat) (a3 : Option Addr) (l3 c3 : Nat) (x4 : Int) (p : PropS) (h : PropAt w s a2 l2 a3 l3 x4 p)
    (a5 : Option Addr) (l5 c5 : Nat) (ls : List Dm) (hd : Doms w a5 l5 ls) (hs : ∀ d ∈ ls, Sm d) :
    Calls Try.prog 10 #[.agg #[.string s, .slice a2 l2 c2, .slice a3 l3 c3, .int .i64 x4], .slice a5 l5 c5] w fun en w' => en = .returned (.bool true) ∧ Ext w w' := by
  have key : ∀ (K : Bool → World → Prop), (∀ w', Ext w w' → K true w') → N10 s a2 l2 c2 a3 l3 c3 x4 a5 l5 c5 K w := fun K hK => by
    have awake : ∀ w0, Ext w w0 → Calls Try.prog 12 #[] w0 fun e w' => ∃ p, e = .returned (.bool p) ∧ K p w' := fun w0 h0 => by
      refine (c12 w0).mono ?_
      rintro en w9 ⟨p, rfl, rfl, hx⟩
      exact ⟨_, rfl, hK _ (h0.trans hx)⟩
    refine AllocK.mk fun b6 w7 hb6 hblk hx7 => ?_
    have hcell := fun (w' : World) (k : Ext w7 w') => blk4 (hblk.ext k)
    have hc := hcell w7 (Ext.refl _)
    refine ⟨_, hc.1, _, _, _, hc.2.1, _, _, _, hc.2.2.1, _, hc.2.2.2, AllocK.mk fun b12 w13 _ hblk13 hx13 => ?_⟩
    have hB13 := hx7.trans hx13
    have hPs : Props w13 (some ⟨b12, 0, none⟩) 1 [p] := Rows.lit hblk13 [p] fun i q hi => by
      have : i = 0 := by have := (List.getElem?_eq_some_iff.1 hi).1; simp at this; omega
      subst this; simp at hi; subst hi
      exact ⟨_, _, _, _, _, _, _, _, rfl, rfl, rfl, rfl, h.ext hB13⟩
    refine (c11 w13 _ _ _ _ _ _ ls [p] (hd.ext (RSl.mono RPair.mono) hB13) hPs).mono ?_
    rintro en w15 ⟨q, rfl, hL, hx15⟩
    have hB15 := hB13.trans hx15
    refine ⟨_, rfl, BoolK.mk (fun _ => awake _ hB15) (fun t => ?_)⟩
    have hL := hL (by simpa using t)
    have hl : ls.length ≤ 9223372036854775807 := by have := hL.1; omega
    have hc := hcell w15 (hx13.trans hx15)
    refine ⟨_, hc.1, _, _, _, hc.2.1, _, _, _, hc.2.2.1, _, hc.2.2.2, ?_⟩
    refine (c48 w15 _ _ _ _ _ _ _ _ p (h.ext hB15) _ _ _ ls (hd.ext (RSl.mono RPair.mono) hB15) hl hs).mono ?_
    rintro en w26 ⟨r1, e1, rfl, k1, hx26⟩
    have hB26 := hB15.trans hx26
    have hc := hcell w26 ((hx13.trans hx15).trans hx26)
    refine ⟨_, _, rfl, _, hc.1, _, _, _, hc.2.1, _, _, _, hc.2.2.1, _, hc.2.2.2, ?_⟩
    refine (c49 w26 _ _ _ _ _ _ _ _ p (h.ext hB26) _ _ _ ls (hd.ext (RSl.mono RPair.mono) hB26) hl hs).mono ?_
    rintro en w34 ⟨r2, e2, rfl, k2, hx34⟩
    obtain ⟨rfl, rfl⟩ := k1.eq k2
    exact ⟨_, _, rfl, BoolK.mk (fun _ => BoolK.mk (fun _ => awake _ (hB26.trans hx34)) (fun t => by simp at t)) (fun t => by simp at t)⟩
  refine (calls10 _ _ _ _ _ _ _ _ _ _ _ (fun q w' => q = true ∧ Ext w w') w (key _ fun w' hx => ⟨rfl, hx⟩)).mono ?_
  rintro en w' ⟨q, rfl, rfl, hx⟩
  exact ⟨rfl, hx⟩
end Go.Proofs.Ytggfnakhmjkoeaa
