/- A part of the proof: plain forms of functions and laws about them. -/
import Derived.Test.YtbiamhoonhjodabGreatDoorGrorBc
namespace Go.V.Gr
open Go Go.V
def rnk (cf : Nat → Nat → Int) (p : Nat → Nat) : Nat → Nat
  | 0 => 0
  | i + 1 => rnk cf p i + (if cf (p i) (p (i + 1)) = 0 then 0 else 1)
theorem rnk_le (cf : Nat → Nat → Int) (p : Nat → Nat) : ∀ i, rnk cf p i ≤ i
  | 0 => Nat.le_refl _
  | i + 1 => by have := rnk_le cf p i; rw [rnk]; split <;> omega
theorem rnk_ok {cf : Nat → Nat → Int} {p : Nat → Nat} {n : Nat} (hp : ∀ i, i < n → p i < n) (htri : ∀ i j k, i < n → j < n → k < n → Tri (cf i j) (cf j k) (cf i k)) (h0 : ∀ i, i < n → cf i i = 0) (hs : ∀ i j, i < j → j < n → cf (p i) (p j) ≤ 0) :
    ∀ (i j : Nat), i ≤ j → j < n → (rnk cf p i = rnk cf p j ∧ cf (p i) (p j) = 0) ∨ (rnk cf p i < rnk cf p j ∧ cf (p i) (p j) < 0) := by
  intro i j
  induction j with
  | zero => intro h1 h2; have : i = 0 := by omega
            subst this; exact .inl ⟨rfl, h0 _ (hp 0 h2)⟩
  | succ j ih =>
    intro h1 h2
    by_cases e : i = j + 1
    · subst e; exact .inl ⟨rfl, h0 _ (hp _ h2)⟩
    · have t := htri (p i) (p j) (p (j + 1)) (hp i (by omega)) (hp j (by omega)) (hp _ h2)
      have hle := hs j (j + 1) (by omega) h2
      rw [rnk]
      rcases ih (by omega) (by omega) with ⟨e1, e2⟩ | ⟨e1, e2⟩
      · by_cases z : cf (p j) (p (j + 1)) = 0
        · rw [if_pos z]; exact .inl ⟨by omega, t.1 e2 z⟩
        · rw [if_neg z]; exact .inr ⟨by omega, t.2 (by omega) hle (by omega)⟩
      · refine .inr ⟨?_, t.2 (by omega) hle (by omega)⟩
        split <;> omega
end Go.V.Gr
namespace Go.Proofs.YtbiamhoonhjodabGreatDoor
open Go Go.V Go.Proofs Go.V.Gr
open Go.RowKit (Below)
open Go.Sort
theorem ext_full {α : Type} (d : Array α) (m : Nat) (h : d.size = m) : d.extract 0 m = d := by subst h; simp
theorem callArgs_two (a b : Value) (k : Array Value) : callArgs [] [a, b] k.toList = #[a, b] ++ k := by
  unfold callArgs
  cases hk : k.toList with
  | nil =>
    have : k = #[] := by apply Array.ext'; simpa using hk
    subst this; rfl
  | cons x l =>
    have : k = (x :: l).toArray := by apply Array.ext'; simpa using hk
    subst this; simp
theorem sortUpd {α ρ : Type} [Inhabited α] {own : OwnM ρ} {r : ρ} (enc : α → Value) (w : World) (n blk off : Nat) (d : Array α) (os : Array Obj) (hb : own blk = some r) : Upd own own r w (sortWorld enc w blk off n d os) := by
  have hs : (Sort.putRow enc (Sort.ahead w n) blk off d).heap.size = w.heap.size := by rw [Sort.size_putRow]; rfl
  refine ⟨rfl, rfl, rfl, by simp [sortWorld, grow, hs], fun k hk hne => ?_, fun _ _ => rfl, fun ht k hk => ht k (Nat.le_trans (by simp [sortWorld, grow, hs]) hk)⟩
  have hne : ¬ blk = k := fun e => hne (e ▸ hb)
  have h1 : (Sort.putRow enc (Sort.ahead w n) blk off d).heap[k]? = w.heap[k]? := by
    simp only [Sort.putRow, Sort.mapBlock, Array.getElem?_modify]
    rw [if_neg hne]; rfl
  show ((Sort.putRow enc (Sort.ahead w n) blk off d).heap ++ os)[k]? = _
  rw [Array.getElem?_append_left (by rw [hs]; exact hk), h1]
set_option maxRecDepth 100000 in
theorem ctr12 {w0 : World} {n : Nat} (hn : 0 < n) (hn2 : n ≤ 1000000) {g : FuncId} {k3 : Array Value} {cf : Nat → Nat → Int} (hg : Go.V.Enters Tryz.prog g)
    (hA : ∀ w', Ext w0 w' → ∀ i j, i < n → j < n → Calls Tryz.prog g (#[.int .i64 (i : Int), .int .i64 (j : Int)] ++ k3) w' fun e w2 => e = .returned (.int .i64 (cf i j)) ∧ XE w' w2)
    (hneg : ∀ i j, i < n → j < n → cf j i = - cf i j) (htri : ∀ i j k, i < n → j < n → k < n → Tri (cf i j) (cf j k) (cf i k)) (hsgn : ∀ i j, i < n → j < n → cf i j = -1 ∨ cf i j = 0 ∨ cf i j = 1) :
    Calls Tryz.prog 12 #[.int .i64 (n : Int), .func (.func g) #[] k3] w0 fun en w' => ∃ a l c, en = .returned (.slice a l c) ∧ (∃ rk, Rk n rk cf ∧ Ints w' a l rk ∧ Ext w0 w') := by
  refine calls12 _ _ _ _ w0 ?_
  haveI : Inhabited (Fin n) := ⟨⟨0, hn⟩⟩
  simp only [N12, Int.toNat_natCast]
  refine ⟨⟨by omega, by omega, by omega, by omega⟩, RowR.make (x := (0 : Int)) (enc := eI) rfl (by simp only [maxLen]; omega) (fun _ => (none : Option Nat)) 0 fun b4 w5 r5 u5 x5 hb4 => ?_⟩
  have L5 := (Mine.refl (ρ := Nat) w0).upd u5
  have ob4 : setOwn (fun _ => (none : Option Nat)) (some b4) 0 b4 = some 0 := by unfold setOwn; rw [if_pos rfl]
  generalize setOwn (fun _ => (none : Option Nat)) (some b4) 0 = own at r5 u5 L5 ob4
  refine ⟨fun i w' => ∃ (k : Nat) (ls : List Int), i = k ∧ k ≤ n ∧ Mine own w0 w' ∧ RowR own 0 3 1 eI w' (some ⟨b4, 0, none⟩, n, n) ls ∧ ls.length = n ∧ ∀ j, j < k → ls[j]? = some (j : Int), fun i _ => n - i.toNat, ⟨⟨0, _, rfl, by omega, L5, r5, by simp, fun j hj => by omega⟩, trivial⟩, ?_⟩
  rintro w8 _ ⟨k, ls, rfl, hk, L8, r8, hls, hall⟩
  refine BoolK.mk (fun t => ?_) (fun t => ?_)
  · have hlt : k < n := by have := of_decide_eq_true t; omega
    refine ⟨⟨by omega, by omega⟩, RowR.seti r8 (by omega) _ fun w10 r10 u10 => ?_⟩
    rw [wrap_succ (by omega)]
    refine ⟨⟨k + 1, _, rfl, by omega, L8.upd u10, r10, by simpa using hls, fun j hj => ?_⟩, by simp; omega⟩
    rw [List.getElem?_set]
    by_cases e : k = j
    · subst e; rw [if_pos rfl, if_pos (by omega)]
    · rw [if_neg e]; exact hall j (by omega)
  have hkn : k = n := by have := of_decide_eq_false t; omega
  subst hkn
  -- the row as the sort sees it
  let enc : Fin k → Value := fun i => .int .i64 (i.val : Int)
  let d : Array (Fin k) := Array.ofFn fun i => i
  have hd : d.size = k := by simp [d]
  obtain ⟨⟨hll, hf, ho⟩, _⟩ := r8
  have hB : ∃ cur, Blk w8 b4 cur 3 ∧ ∀ j, j < k → cur[j]? = some (.int .i64 (j : Int)) := by
    rcases ho with ⟨h0, _⟩ | ⟨g', cap, cur, hv, hbg, hg', h3, h4, h5, h6⟩
    · cases h0
    · simp only [Value.slice.injEq, Option.some.injEq, Addr.mk.injEq, and_true] at hv
      obtain ⟨rfl, _, _⟩ := hv
      refine ⟨cur, hg', fun j hj => ?_⟩
      have h7 := congrArg (·[j]?) h6
      simp only [Nat.mul_one] at h7
      rw [List.getElem?_take_of_lt (by omega), Array.getElem?_toList] at h7
      have e2 := enc_get (enc := eI) eI_len (i := j) (j := 0) (hall j hj) (by omega)
      simp only [Nat.mul_one, Nat.add_zero] at e2
      rw [h7, e2]; rfl
  obtain ⟨cur, hB, hcur⟩ := hB
  have hdv : ∀ j, j < k → (d[j]!).val = j := fun j hj => by
    rw [getElem!_pos d j (by rw [hd]; exact hj)]; simp [d]
  have hH : Holds enc w8 b4 0 d := fun j hj => by
    rw [hd] at hj
    refine ⟨?_, hB.frozen _⟩
    rw [Nat.zero_add, hB.cell, hcur j hj]
    show _ = some (Value.int .i64 ((d[j]!).val : Int))
    rw [hdv j hj]
  let cf' : Fin k → Fin k → Int := fun i j => cf i.val j.val
  have h00 : ∀ i, i < k → cf i i = 0 := fun i hi => by have := hneg i i hi hi; omega
  have hO : SWO (Go.Proofs.ltOf cf') := by
    refine ⟨fun x => ?_, fun x y z h1 h2 => ?_, fun x y z h1 h2 => ?_⟩
    · simp only [Go.Proofs.ltOf, decide_eq_false_iff_not]
      have := h00 x.val x.isLt
      show ¬ cf x.val x.val < 0
      omega
    · simp only [Go.Proofs.ltOf, decide_eq_true_eq] at *
      exact (htri x.val y.val z.val x.isLt y.isLt z.isLt).2 (Int.le_of_lt h1) (Int.le_of_lt h2) (.inl h1)
    · simp only [Go.Proofs.ltOf, decide_eq_false_iff_not, Int.not_lt] at *
      have a1 := hneg x.val y.val x.isLt y.isLt
      have a2 := hneg y.val z.val y.isLt z.isLt
      have a3 := hneg x.val z.val x.isLt z.isLt
      have t := htri z.val y.val x.val z.isLt y.isLt x.isLt
      show 0 ≤ cf x.val z.val
      have h1 : 0 ≤ cf x.val y.val := h1
      have h2 : 0 ≤ cf y.val z.val := h2
      by_cases z1 : cf z.val y.val = 0
      · by_cases z2 : cf y.val x.val = 0
        · have := t.1 z1 z2; omega
        · have := t.2 (by omega) (by omega) (.inr (by omega)); omega
      · have := t.2 (by omega) (by omega) (.inl (by omega)); omega
  have hX : ∀ (m : Nat) (os : Array Obj) (dk : Array (Fin k)), Upd own own 0 w8 (sortWorld enc w8 b4 0 m dk os) := fun m os dk => sortUpd enc w8 m b4 0 dk os ob4
  have hcmp : CmpLays1 Tryz.prog g k3 enc cf' b4 0 d.size w8 := fun m os dk _ x y => by
    refine (hA _ (L8.upd (hX m os dk)).below x.val y.val x.isLt y.isLt).mono ?_
    rintro e w2 ⟨rfl, hx⟩
    exact ⟨rfl, hx.grown⟩
  have sorted := Any.slices_SortFunc sortfLay enc (fun _ => rfl) cf' hO g k3 b4 0 k d w8 hg hcmp hH hB.lt (by rw [hd]; omega)
  rw [hd] at sorted
  refine Calls.mono sorted ?_
  rintro en w11 ⟨rfl, d', n', os, hperm, hsort, rfl⟩
  refine ⟨rfl, ⟨by omega, by omega, by omega, by omega⟩, ?_⟩
  obtain ⟨hds, -, hperm⟩ := hperm
  have hd's : d'.size = k := hds.trans hd
  have hp' : d'.toList.Perm d.toList := by
    rwa [ext_full d' k hd's, ext_full d k hd] at hperm
  let p : Nat → Nat := fun i => (d'[i]!).val
  have hp : ∀ i, i < k → p i < k := fun i _ => (d'[i]!).isLt
  have hnd : d.toList.Nodup := by
    rw [List.Nodup, List.pairwise_iff_getElem]
    intro i j hi hj hij e
    simp only [Array.length_toList, hd] at hi hj
    have e1 := hdv i hi; have e2 := hdv j hj
    rw [getElem!_pos d i (by rw [hd]; exact hi)] at e1
    rw [getElem!_pos d j (by rw [hd]; exact hj)] at e2
    simp only [Array.getElem_toList] at e
    rw [e, e2] at e1; omega
  have hnd' : d'.toList.Nodup := hp'.nodup_iff.2 hnd
  have pinj : ∀ i j, i < k → j < k → p i = p j → i = j := fun i j hi hj e => by
    have e : d'[i]! = d'[j]! := Fin.ext e
    rw [getElem!_pos d' i (by omega), getElem!_pos d' j (by omega)] at e
    have h1 : d'.toList[i]? = some (d'[i]'(by omega)) := by rw [Array.getElem?_toList, Array.getElem?_eq_getElem]
    have h2 : d'.toList[j]? = some (d'[i]'(by omega)) := by rw [Array.getElem?_toList, Array.getElem?_eq_getElem (by omega), e]
    exact nodup_idx hnd' h1 h2
  have psurj : ∀ v, v < k → ∃ i, i < k ∧ p i = v := fun v hv => by
    have : (⟨v, hv⟩ : Fin k) ∈ d'.toList := hp'.mem_iff.2 (by simp [d])
    obtain ⟨i, hi⟩ := List.getElem?_of_mem this
    have hil : i < d'.toList.length := (List.getElem?_eq_some_iff.1 hi).1
    have hil : i < k := by simpa [hd's] using hil
    refine ⟨i, hil, ?_⟩
    show (d'[i]!).val = v
    rw [getElem!_pos d' i (by omega)]
    rw [Array.getElem?_toList, Array.getElem?_eq_getElem (by omega)] at hi
    rw [Option.some.inj hi]
  have ps : ∀ i j, i < j → j < k → cf (p i) (p j) ≤ 0 := fun i j hij hj => by
    have := hsort i j (by omega) hij hj
    simp only [Go.Proofs.ltOf, decide_eq_false_iff_not, Int.not_lt] at this
    have h2 := hneg (p i) (p j) (hp i (by omega)) (hp j hj)
    have : 0 ≤ cf (p j) (p i) := this
    omega
  have RK := rnk_ok hp htri h00 ps
  have U11 := hX n' os d'
  have L11 := L8.upd U11
  have hcell : ∀ j, j < k → (sortWorld enc w8 b4 0 n' d' os).cell? ((⟨b4, 0, none⟩ : Addr).add (((j : Nat) : Int).toNat * 1)) = some (.int .i64 (p j : Int)) := fun j hj => by
    have hH' : Holds enc (Sort.ahead w8 n') b4 0 d := fun j hj => hH j hj
    have := Sort.cell?_putRow enc (Sort.ahead w8 n') b4 0 d d' hH' (by rw [hd's, hd]) j (by omega)
    rw [Int.toNat_natCast, add_mk, Nat.mul_one]
    show (Sort.grow _ os).cell? _ = _
    rw [Sort.cell?_grow _ _ _ (by rw [Sort.size_putRow]; exact hB.lt), this]
  generalize sortWorld enc w8 b4 0 n' d' os = w11 at L11 hcell
  have hb11 : b4 < w11.heap.size := block_lt_of_cell (hcell 0 hn)
  refine RowR.make (x := (0 : Int)) (enc := eI) rfl (by simp only [maxLen]; omega) own 1 fun b13 w14 r14 u14 x14 hb13 => ?_
  have L14 := L11.upd u14
  have ob : setOwn own (some b13) 1 b4 = some 0 := by unfold setOwn; rw [if_neg (by intro e; cases e; omega)]; exact ob4
  have hcell14 : ∀ j, j < k → w14.cell? ((⟨b4, 0, none⟩ : Addr).add (((j : Nat) : Int).toNat * 1)) = some (.int .i64 (p j : Int)) := fun j hj => x14.cell (hcell j hj)
  generalize setOwn own (some b13) 1 = own1 at r14 u14 L14 ob
  refine ⟨fun x w' => ∃ (i : Nat) (rs : List Int), x = i ∧ i ≤ k ∧ Mine own1 w0 w' ∧ (∀ j, j < k → w'.cell? ((⟨b4, 0, none⟩ : Addr).add (((j : Nat) : Int).toNat * 1)) = some (.int .i64 (p j : Int))) ∧ b4 < w'.heap.size ∧ RowR own1 1 3 1 eI w' (some ⟨b13, 0, none⟩, k, k) rs ∧ rs.length = k ∧
      (∀ q, q < i → ga rs (p q) = (rnk cf p q : Nat)) ∧ (∀ v, (∀ q, q < i → p q ≠ v) → ga rs v = 0), fun x _ => k - x.toNat,
    ⟨⟨0, _, rfl, by omega, L14, hcell14, Nat.lt_of_lt_of_le hb11 x14.size, r14, by simp, fun q hq => by omega, fun v _ => ga_rep⟩, trivial⟩, ?_⟩
  clear hcell14 L14 r14 u14 x14
  rintro w17 _ ⟨i, rs, rfl, hi, L17, hc17, hb17, r17, hrs, hA1, hA2⟩
  have keep : ∀ {w w' : World}, Upd own1 own1 1 w w' → b4 < w.heap.size → (∀ j, j < k → w.cell? ((⟨b4, 0, none⟩ : Addr).add (((j : Nat) : Int).toNat * 1)) = some (.int .i64 (p j : Int))) → ∀ j, j < k → w'.cell? ((⟨b4, 0, none⟩ : Addr).add (((j : Nat) : Int).toNat * 1)) = some (.int .i64 (p j : Int)) := fun u hb h j hj => by
    have e := u.block b4 hb (by rw [ob]; decide)
    have := h j hj
    simp only [add_mk, World.cell?] at this ⊢
    rw [e]; exact this
  refine BoolK.mk (fun t => ?_) (fun t => ?_)
  · have hlt : i < k := by have := of_decide_eq_true t; omega
    have hm : k - (((i + 1 : Nat) : Int)).toNat < k - ((i : Nat) : Int).toNat := by simp; omega
    refine BoolK.mk (fun t1 => ?_) (fun t1 => ?_)
    · obtain ⟨j, rfl⟩ : ∃ j, i = j + 1 := ⟨i - 1, by have := of_decide_eq_true t1; omega⟩
      have wj : IntKind.wrap .i64 (((j + 1 : Nat) : Int) - 1) = (j : Int) := by rw [wrap_id (by omega) (by omega)]; omega
      rw [wj]
      refine DrewK.mk fun w19 x19 => ?_
      have hc19 : ∀ j, j < k → w19.cell? ((⟨b4, 0, none⟩ : Addr).add (((j : Nat) : Int).toNat * 1)) = some (.int .i64 (p j : Int)) := fun j hj => x19.cell (hc17 j hj)
      have r19 := r17.ext x19
      have L19 := L17.ext x19
      have hb19 := Nat.lt_of_lt_of_le hb17 x19.size
      have pj := hp j (by omega); have pj1 := hp (j + 1) hlt
      refine ⟨⟨by omega, by omega⟩, _, hc19 (j + 1) hlt, ⟨by omega, by omega⟩, _, hc19 j (by omega), ⟨by omega, by omega⟩, _, RowR.geti r19 (by omega), ⟨by omega, by omega⟩, RowR.seti r19 (by omega) _ fun w23 r23 u23 => DrewK.mk fun w24 x24 => ?_⟩
      have hc24 : ∀ j, j < k → w24.cell? ((⟨b4, 0, none⟩ : Addr).add (((j : Nat) : Int).toNat * 1)) = some (.int .i64 (p j : Int)) := fun j hj => x24.cell (keep u23 hb19 hc19 j hj)
      have r24 := r23.ext x24
      have L24 := (L19.upd u23).ext x24
      have hb24 : b4 < w24.heap.size := Nat.lt_of_lt_of_le hb19 (Nat.le_trans u23.size x24.size)
      rw [hA1 j (by omega)] at r24
      refine ⟨⟨by omega, by omega⟩, _, hc24 j (by omega), ⟨by omega, by omega⟩, _, hc24 (j + 1) hlt, hg, ?_⟩
      rw [callArgs_two]
      refine (hA w24 L24.below (p j) (p (j + 1)) pj pj1).mono ?_
      rintro en w28 ⟨rfl, x28⟩
      have hc28 : ∀ j, j < k → w28.cell? ((⟨b4, 0, none⟩ : Addr).add (((j : Nat) : Int).toNat * 1)) = some (.int .i64 (p j : Int)) := fun j hj => x28.1.cell (hc24 j hj)
      have r28 := r24.ext x28.1
      have L28 := L24.ext x28.1
      have hb28 := Nat.lt_of_lt_of_le hb24 x28.1.size
      have hpr : p (j + 1) < rs.length := by omega
      have hrl := rnk_le cf p j
      have hold : ∀ q, q < j + 1 → p q ≠ p (j + 1) := fun q hq e => by have := pinj q (j + 1) (by omega) hlt e; omega
      refine ⟨_, rfl, BoolK.mk (fun t2 => ?_) (fun t2 => ?_)⟩
      · have t2 : cf (p j) (p (j + 1)) ≠ 0 := by simpa using t2
        refine ⟨⟨by omega, by omega⟩, _, hc28 (j + 1) hlt, ⟨by omega, by omega⟩, _, RowR.geti r28 (by simp; omega), ⟨by omega, by omega⟩, RowR.seti r28 (by simp; omega) _ fun w32 r32 u32 => ?_⟩
        rw [ga_set hpr, if_pos rfl, wrap_succ (by omega)] at r32
        rw [wrap_succ (by omega)]
        have hr32 : p (j + 1) < (rs.set (p (j + 1)) ((rnk cf p j : Nat) : Int)).length := by simpa using hpr
        refine ⟨⟨j + 1 + 1, _, rfl, by omega, L28.upd u32, keep u32 hb28 hc28, Nat.lt_of_lt_of_le hb28 u32.size, r32, by simpa using hrs, fun q hq => ?_, fun v hv => ?_⟩, hm⟩
        · rw [ga_set hr32]
          by_cases e : q = j + 1
          · subst e; rw [if_pos rfl, rnk, if_neg t2]
          · rw [if_neg (hold q (by omega)), ga_set hpr, if_neg (hold q (by omega))]; exact hA1 q (by omega)
        · rw [ga_set hr32, if_neg (fun e => hv (j + 1) (by omega) e.symm), ga_set hpr, if_neg (fun e => hv (j + 1) (by omega) e.symm)]
          exact hA2 v fun q hq => hv q (by omega)
      · have t2 : cf (p j) (p (j + 1)) = 0 := by simpa using t2
        rw [wrap_succ (by omega)]
        refine ⟨⟨j + 1 + 1, _, rfl, by omega, L28, hc28, hb28, r28, by simpa using hrs, fun q hq => ?_, fun v hv => ?_⟩, hm⟩
        · rw [ga_set hpr]
          by_cases e : q = j + 1
          · subst e; rw [if_pos rfl, rnk, if_pos t2]; rfl
          · rw [if_neg (hold q (by omega))]; exact hA1 q (by omega)
        · rw [ga_set hpr, if_neg (fun e => hv (j + 1) (by omega) e.symm)]
          exact hA2 v fun q hq => hv q (by omega)
    · have : i = 0 := by have := of_decide_eq_false t1; omega
      subst this
      rw [wrap_succ (by omega)]
      refine ⟨⟨1, rs, rfl, by omega, L17, hc17, hb17, r17, hrs, fun q hq => ?_, fun v hv => hA2 v fun q hq => by omega⟩, hm⟩
      have : q = 0 := by omega
      subst this
      exact hA2 _ fun q hq => by omega
  · have hik : i = k := by have := of_decide_eq_false t; omega
    subst hik
    refine ⟨rs, ⟨hrs, fun a b ha hb => ?_⟩, OwnR.ints r17.1, L17.below⟩
    obtain ⟨x, hx, rfl⟩ := psurj a ha
    obtain ⟨y, hy, rfl⟩ := psurj b hb
    rw [hA1 x hx, hA1 y hy]
    have one : ∀ x y, x ≤ y → y < i → sg (rnk cf p x : Nat) (rnk cf p y : Nat) = cf (p x) (p y) := fun x y hxy hy => by
      have s := hsgn (p x) (p y) (hp x (by omega)) (hp y hy)
      rcases RK x y hxy hy with ⟨e1, e2⟩ | ⟨e1, e2⟩
      · rw [e2, e1]; exact sg_zero.2 rfl
      · have : cf (p x) (p y) = -1 := by omega
        rw [this]; unfold sg; rw [if_pos (by omega)]
    rcases Nat.le_total x y with h | h
    · exact one x y h hy
    · have := one y x h hx
      rw [sg_neg, this, hneg (p x) (p y) (hp x hx) (hp y hy)]; omega
end Go.Proofs.YtbiamhoonhjodabGreatDoor

namespace Go.Proofs.YtbiamhoonhjodabGreatDoor
open Go Go.V Go.Proofs
open Go.RowKit (Below)
/-! manystrand/graph.joined -/
def N11 (a1 : Option Addr) (l1 : Nat) (c1 : Nat) (x2 : Int) (a3 : Option Addr) (l3 : Nat) (c3 : Nat) (K : Option Addr → Nat → Nat → Int → World → Prop) (w : World) : Prop :=
 AllocK w (#[(.int .i64 x2), (.slice a3 l3 c3)]) 24 fun b4 w5 =>
 ∃ (a6 : Option Addr) (l6 : Nat) (c6 : Nat), w5.cell? (b4.add 1) = some (.slice a6 l6 c6) ∧
 (∃ (I7 : Option Addr → Nat → Nat → Int → World → Prop) (μ8 : Option Addr → Nat → Nat → Int → World → Nat),
 (I7 a1 l1 c1 0 w5 ∧ True) ∧
 ∀ (w9 : World) (a10 : Option Addr) (l10 : Nat) (c10 : Nat) (x11 : Int), I7 a10 l10 c10 x11 w9 →
 BoolK (decide ((x11 : Int) < (l6 : Nat)))
 ((0 ≤ (x11 : Int) ∧ (x11 : Int) < (l6 : Nat)) ∧
 AddrK a6 fun b12 =>
 ∃ (s13 : ByteArray), w9.cell? ((b12.add ((x11 : Int).toNat * 5)).add 0) = some (.string s13) ∧
 (∃ (x14 : Int), w9.cell? ((b12.add ((x11 : Int).toNat * 5)).add 1) = some (.int .i64 x14) ∧
 (∃ (s15 : ByteArray), w9.cell? ((b12.add ((x11 : Int).toNat * 5)).add 2) = some (.string s15) ∧
 (∃ (a16 : Option Addr) (l16 : Nat) (c16 : Nat), w9.cell? ((b12.add ((x11 : Int).toNat * 5)).add 3) = some (.slice a16 l16 c16) ∧
 (∃ (a17 : Option Addr) (l17 : Nat) (c17 : Nat), w9.cell? ((b12.add ((x11 : Int).toNat * 5)).add 4) = some (.slice a17 l17 c17) ∧
 (AllocK w9 (#[.string ⟨#[]⟩, .int .i64 0, .string ⟨#[]⟩, .slice none 0 0, .slice none 0 0]) 34 fun b18 w19 =>
 SetK w19 (b18.add 0) (.string s13) fun w20 =>
 SetK w20 (b18.add 1) (.int .i64 x14) fun w21 =>
 SetK w21 (b18.add 2) (.string s15) fun w22 =>
 SetK w22 (b18.add 3) (.slice a16 l16 c16) fun w23 =>
 SetK w23 (b18.add 4) (.slice a17 l17 c17) fun w24 =>
 ∃ (a25 : Option Addr) (l25 : Nat) (c25 : Nat), w24.cell? (b18.add 4) = some (.slice a25 l25 c25) ∧
 ((0 ≤ ((l25 : Nat) : Int) ∧ ((l25 : Nat) : Int) ≤ (l25 : Nat) ∧ ((8 : Nat) : Int) * (l25 : Nat) ≤ 281474976710656 ∧ ((l25 : Nat) : Int) ≤ 9223372036854775807) ∧
 AllocK w24 (madeCells (#[.int .i64 0]) (((l25 : Nat) : Int).toNat * 1)) 3 fun b26 w27 =>
 ∃ (a28 : Option Addr) (l28 : Nat) (c28 : Nat), w27.cell? (b18.add 4) = some (.slice a28 l28 c28) ∧
 (∃ (I29 : Int → World → Prop) (μ30 : Int → World → Nat),
 (I29 0 w27 ∧ True) ∧
 ∀ (w31 : World) (x32 : Int), I29 x32 w31 →
 BoolK (decide ((x32 : Int) < (l28 : Nat)))
 ((0 ≤ (x32 : Int) ∧ (x32 : Int) < (l28 : Nat)) ∧
 AddrK a28 fun b33 =>
 ∃ (x34 : Int), w31.cell? (b33.add ((x32 : Int).toNat * 1)) = some (.int .i64 x34) ∧
 ((0 ≤ (x32 : Int) ∧ (x32 : Int) < (((l25 : Nat) : Int).toNat : Nat)) ∧
 SetK w31 (b26.add ((x32 : Int).toNat * 1)) (.int .i64 (IntKind.wrap .i64 ((l1 : Nat) + x34))) fun w35 =>
 I29 (IntKind.wrap .i64 (x32 + 1)) w35 ∧ μ30 (IntKind.wrap .i64 (x32 + 1)) w35 < μ30 x32 w31))
 (SetK w31 (b18.add 4) (.slice (some b26) (((l25 : Nat) : Int).toNat) (((l25 : Nat) : Int).toNat)) fun w36 =>
 ∃ (s37 : ByteArray), w36.cell? (b18.add 0) = some (.string s37) ∧
 (∃ (x38 : Int), w36.cell? (b18.add 1) = some (.int .i64 x38) ∧
 (∃ (s39 : ByteArray), w36.cell? (b18.add 2) = some (.string s39) ∧
 (∃ (a40 : Option Addr) (l40 : Nat) (c40 : Nat), w36.cell? (b18.add 3) = some (.slice a40 l40 c40) ∧
 (∃ (a41 : Option Addr) (l41 : Nat) (c41 : Nat), w36.cell? (b18.add 4) = some (.slice a41 l41 c41) ∧
 (AllocK w36 (#[(.string s37), (.int .i64 x38), (.string s39), (.slice a40 l40 c40), (.slice a41 l41 c41)]) 34 fun b42 w43 =>
 ∃ (a44 : Option Addr), ∃ (l44 : Nat), ∃ (c44 : Nat), ∃ (w45 : World), Sem.run Tryz.prog (Builtin.append_ #[22, 22] 22 #[(.slice a10 l10 c10), (.slice (some b42) 1 1)]) w43 = .ok (.slice a44 l44 c44) w45 ∧
 (I7 a44 l44 c44 (IntKind.wrap .i64 (x11 + 1)) w45 ∧ μ8 a44 l44 c44 (IntKind.wrap .i64 (x11 + 1)) w45 < μ8 a10 l10 c10 x11 w9)))))))))))))))
 (DrewK w9 fun w46 =>
 ∃ (x47 : Int), w46.cell? b4 = some (.int .i64 x47) ∧
 (K a10 l10 c10 (IntKind.wrap .i64 ((l1 : Nat) + x47)) w46)))
def ann11 : Ann := (.two .nil (.two .nil (.two (.two .nil (.one (.loop [(0, (.one .slice)), (17, (.one (.int .i64)))] [3, 6, 15, 16] (.two .nil (.two (.two .nil .nil) (.two (.one (.two .nil (.two .nil (.two (.two .nil (.one (.loop [(28, (.one (.int .i64)))] [0, 3, 6, 8, 9, 15, 16, 17, 26, 27] (.two .nil (.two (.two .nil .nil) (.two (.one (.two .nil .nil)) .nil)))))) (.two .nil .nil))))) .nil)))))) (.two (.anyC 7 (.take 0 (.take 1 (.take 2 (.take 3 (.take 4 (.take 5 (.take 6 .done)))))))) .nil))))
noncomputable def code11 : Code := match Tryz.f11.body with | some c => c | none => .skip
theorem wp11 (a1 : Option Addr) (l1 : Nat) (c1 : Nat) (x2 : Int) (a3 : Option Addr) (l3 : Nat) (c3 : Nat) (K : Option Addr → Nat → Nat → Int → World → Prop) (w : World) : WP Tryz.prog tab code11 ann11 (fnQ tab Tryz.f11.results.toList [(.one .slice), (.one (.int .i64))] K) (argE 0 [(.slice a1 l1 c1), (.agg #[(.int .i64 x2), (.slice a3 l3 c3)])]) w = N11 a1 l1 c1 x2 a3 l3 c3 K w := by kernel_rfl
theorem calls11 (a1 : Option Addr) (l1 : Nat) (c1 : Nat) (x2 : Int) (a3 : Option Addr) (l3 : Nat) (c3 : Nat) (K : Option Addr → Nat → Nat → Int → World → Prop) (w : World) (h : N11 a1 l1 c1 x2 a3 l3 c3 K w) : Calls Tryz.prog 11 #[(.slice a1 l1 c1), (.agg #[(.int .i64 x2), (.slice a3 l3 c3)])] w fun en w' => ∃ (a48 : Option Addr), ∃ (l48 : Nat), ∃ (c48 : Nat), ∃ (x49 : Int), en = .returned (.tuple #[(.slice a48 l48 c48), (.int .i64 x49)]) ∧ K a48 l48 c48 x49 w' :=
 have e : (fun en w' => ExShs [(.one .slice), (.one (.int .i64))] fun vs => en = .returned (tupled vs) ∧ ap [(.one .slice), (.one (.int .i64))] K vs fun p => p w') = (fun (en : Ending) (w' : World) => ∃ (a48 : Option Addr), ∃ (l48 : Nat), ∃ (c48 : Nat), ∃ (x49 : Int), en = .returned (.tuple #[(.slice a48 l48 c48), (.int .i64 x49)]) ∧ K a48 l48 c48 x49 w') := by kernel_rfl
 e ▸ fn_sound tabOk mixed Tryz.func11 (by kernel_rfl : Tryz.f11.body = some code11) ann11 [(.slice a1 l1 c1), (.agg #[(.int .i64 x2), (.slice a3 l3 c3)])] [(.one .slice), (.one (.int .i64))] K w (by kernel_rfl) ((wp11 a1 l1 c1 x2 a3 l3 c3 K w).symm ▸ h)
end Go.Proofs.YtbiamhoonhjodabGreatDoor

namespace Go.V.Gr
open Go Go.V
def shift (n : Nat) (x : Nd) : Nd := { x with ks := x.ks.map fun k => (n : Int) + k }
def app (xs ys : List Nd) : List Nd := xs ++ ys.map (shift xs.length)
theorem shift_hd (n : Nat) (x : Nd) : (shift n x).hd = x.hd := by simp [shift, Nd.hd]
theorem app_len (xs ys : List Nd) : (app xs ys).length = xs.length + ys.length := by simp [app]
theorem nd_left {xs ys : List Nd} {i : Nat} (h : i < xs.length) : nd (app xs ys) i = nd xs i := by
  rw [nd, nd, app, List.getElem?_append_left h]
theorem nd_right {xs ys : List Nd} {j : Nat} (h : j < ys.length) : nd (app xs ys) (xs.length + j) = shift xs.length (nd ys j) := by
  rw [nd, nd, app, List.getElem?_append_right (by omega), Nat.add_sub_cancel_left, List.getElem?_map, List.getElem?_eq_getElem h]; rfl
theorem app_closed {xs ys : List Nd} (hx : Closed xs) (hy : Closed ys) : Closed (app xs ys) := by
  intro x hm k hk
  rw [app_len]
  rcases List.mem_append.1 hm with h | h
  · have := hx x h k hk; omega
  · obtain ⟨y, hy', rfl⟩ := List.mem_map.1 h
    obtain ⟨k', hk', rfl⟩ := List.mem_map.1 hk
    have := hy y hy' k' hk'; omega
theorem app_left {xs ys : List Nd} (hx : Closed xs) {i : Nat} (hi : i < xs.length) : Eqv xs (app xs ys) i i :=
  Eqv.map (fun i => i) (fun i => i < xs.length) (fun i hi => ⟨by rw [nd_left hi], fun m hm => ⟨kid_lt hx hi hm, by simp only [kid, nd_left hi]⟩⟩) hi
theorem app_right {xs ys : List Nd} (hy : Closed ys) {j : Nat} (hj : j < ys.length) : Eqv ys (app xs ys) j (xs.length + j) :=
  Eqv.map (fun j => xs.length + j) (fun j => j < ys.length) (fun j hj => ⟨by rw [nd_right hj, shift_hd], fun m hm => ⟨kid_lt hy hj hm, by
    have h1 := nd_get hj
    rw [kid, kid, nd_right hj, shift, List.getElem?_map]
    rw [List.getElem?_eq_getElem hm]
    have hk : 0 ≤ (nd ys j).ks[m] := by
      have := hy (nd ys j) (by rw [h1]; exact List.getElem_mem _) _ (List.getElem_mem hm); omega
    simp only [Option.map_some, Option.getD_some]; omega⟩⟩) hj
end Go.V.Gr
namespace Go.Proofs.YtbiamhoonhjodabGreatDoor
open Go Go.V Go.Proofs Go.V.Gr
open Go.RowKit (Below)
theorem app_sz {xs ys : List Nd} (hx : Sz xs) (hy : Sz ys) (h : xs.length + ys.length ≤ 1000000) : Sz (app xs ys) := by
  refine ⟨by rw [app_len]; exact h, fun x hm => ?_, fun x hm => ?_⟩
  all_goals rcases List.mem_append.1 hm with h | h
  · exact hx.fs x h
  · obtain ⟨y, hy', rfl⟩ := List.mem_map.1 h; exact hy.fs y hy'
  · exact hx.ks x h
  · obtain ⟨y, hy', rfl⟩ := List.mem_map.1 h; simpa [shift] using hy.ks y hy'
theorem app_w {xs ys : List Nd} (hx : ∀ x ∈ xs, NdW x) (hy : ∀ x ∈ ys, NdW x) : ∀ x ∈ app xs ys, NdW x := by
  intro x hm
  rcases List.mem_append.1 hm with h | h
  · exact hx x h
  · obtain ⟨y, hy', rfl⟩ := List.mem_map.1 h
    have W := hy y hy'
    exact ⟨⟨W.hd.kd, W.hd.n, W.hd.tx, W.hd.fs, W.hd.len⟩, ⟨W.key.kd, by simpa [shift] using W.key.ks⟩⟩
theorem app_eqv {xs ys : List Nd} (hx : Closed xs) (hy : Closed ys) {i j : Nat} (hi : i < xs.length) (hj : j < ys.length) : Eqv (app xs ys) (app xs ys) i (xs.length + j) ↔ Eqv xs ys i j :=
  ⟨fun e => ((app_left hx hi).trans e).trans (app_right hy hj).symm, fun e => ((app_left hx hi).symm.trans e).trans (app_right hy hj)⟩
theorem app_nil (ys : List Nd) : app [] ys = ys := by
  have : ∀ y : Nd, shift 0 y = y := fun y => by
    simp only [shift, Int.natCast_zero, Int.zero_add, List.map_id']
  simp only [app, List.nil_append, List.length_nil]
  rw [List.map_congr_left (g := id) fun y _ => this y, List.map_id]
structure JN (w0 w : World) (own : OwnM Nat) (xs : List Nd) (RW : List Rw) (s : SL) : Prop where
  loc : Mine own w0 w
  out : RowR own 0 34 5 eN w s RW
  len : RW.length = xs.length
  nds : ∀ (q : Nat) (r : Rw) (x : Nd), RW[q]? = some r → xs[q]? = some x → r.kd = x.kd ∧ r.n = x.n ∧ r.tx = x.tx ∧ x.kd.size ≤ maxLen ∧ x.tx.size ≤ maxLen ∧ (Lit.int .i64 x.n).wf = true ∧
    RL 2 RFt w0 r.sf.1 r.sf.2.1 x.fs ∧ RowR own (10 + q) 3 1 eI w r.sk x.ks ∧ x.ks.length ≤ maxLen
section
variable {w0 w w' : World} {own own' : OwnM Nat} {xs : List Nd} {RW : List Rw} {s : SL}
theorem JN.start (w : World) : JN w w (fun _ => none) [] [] (none, 0, 0) := ⟨Mine.refl w, RowR.nil _ _ _ _ _ _, rfl, fun q r x e => by simp at e⟩
theorem JN.ext (h : JN w0 w own xs RW s) (x : Ext w w') : JN w0 w' own xs RW s := ⟨h.loc.ext x, h.out.ext x, h.len, fun q r y e1 e2 => by
  obtain ⟨f1, f2, f3, f4, f5, f6, f7, f8, f9⟩ := h.nds q r y e1 e2
  exact ⟨f1, f2, f3, f4, f5, f6, f7, f8.ext x, f9⟩⟩
theorem JN.upd {r : Nat} (h : JN w0 w own xs RW s) (u : Upd own own' r w w') (h0 : r ≠ 0) (h1 : ∀ q, q < xs.length → r ≠ 10 + q) : JN w0 w' own' xs RW s := ⟨h.loc.upd u, h.out.upd u (fun e => h0 e.symm), h.len, fun q r' y e1 e2 => by
  obtain ⟨f1, f2, f3, f4, f5, f6, f7, f8, f9⟩ := h.nds q r' y e1 e2
  exact ⟨f1, f2, f3, f4, f5, f6, f7, f8.upd u (fun e => h1 q (List.getElem?_eq_some_iff.1 e2).1 e.symm), f9⟩⟩
theorem JN.but {b : Nat} (h : JN w0 w own xs RW s) (k : But b w w') (hb : own b = none) (hb2 : w0.heap.size ≤ b) : JN w0 w' own xs RW s := by
  have fr : ∀ c, c < w.heap.size → own c ≠ none → w'.heap[c]? = w.heap[c]? := fun c _ hc => k.block c fun e => hc (by rw [e]; exact hb)
  have e2 : Ext w0 w' := k.below h.loc.below hb2
  refine ⟨⟨⟨e2.os, e2.tape, e2.output, e2.size, fun c hc _ => e2.block c hc, fun c hc _ => h.loc.fr.free c hc rfl⟩, fun c hc => h.loc.top c (by rw [← k.size]; exact hc)⟩, h.out.frame fr, h.len, fun q r y e1 e2 => ?_⟩
  obtain ⟨f1, f2, f3, f4, f5, f6, f7, f8, f9⟩ := h.nds q r y e1 e2
  exact ⟨f1, f2, f3, f4, f5, f6, f7, f8.frame fr, f9⟩
theorem JN.rows (h : JN w0 w own xs RW s) (hm : xs.length ≤ maxLen) : RNds w s.1 s.2.1 xs := by
  refine ⟨h.out.1.rows eN_len RNd h.len.symm fun f q r y hr hy hf => ?_, by rw [h.out.len, h.len]; exact hm⟩
  obtain ⟨f1, f2, f3, f4, f5, f6, f7, f8, f9⟩ := h.nds q r y hr hy
  refine ⟨by rw [hf 0 (by omega), ← f1]; rfl, by rw [hf 1 (by omega), ← f2]; rfl, by rw [hf 2 (by omega), ← f3]; rfl, f4, f5, ⟨_, _, _, by rw [hf 3 (by omega)]; rfl, f7.ext RFt.mono h.loc.below⟩, ⟨_, _, _, by rw [hf 4 (by omega)]; rfl, OwnR.ints f8.1, ?_⟩, f6⟩
  rw [f8.len]; exact f9
theorem JN.more {s' : SL} {r : Rw} {x : Nd} (h : JN w0 w own xs RW s) (h1 : r.kd = x.kd) (h2 : r.n = x.n) (h3 : r.tx = x.tx) (h4 : x.kd.size ≤ maxLen) (h5 : x.tx.size ≤ maxLen) (h6 : (Lit.int .i64 x.n).wf = true) (h7 : RL 2 RFt w0 r.sf.1 r.sf.2.1 x.fs)
    (h8 : RowR own (10 + xs.length) 3 1 eI w r.sk x.ks) (h9 : x.ks.length ≤ maxLen) (u : Upd own own' 0 w w') (ho : RowR own' 0 34 5 eN w' s' (RW ++ [r])) : JN w0 w' own' (xs ++ [x]) (RW ++ [r]) s' := by
  refine ⟨h.loc.upd u, ho, by simp [h.len], fun q r2 y e1 e2 => ?_⟩
  rcases Nat.lt_or_ge q xs.length with hq | hq
  · rw [List.getElem?_append_left (by rw [h.len]; exact hq)] at e1
    rw [List.getElem?_append_left hq] at e2
    obtain ⟨f1, f2, f3, f4, f5, f6, f7, f8, f9⟩ := h.nds q r2 y e1 e2
    exact ⟨f1, f2, f3, f4, f5, f6, f7, f8.upd u (by omega), f9⟩
  · have hq2 : q = xs.length := by have := (List.getElem?_eq_some_iff.1 e2).1; simp at this; omega
    subst hq2
    rw [← h.len, List.getElem?_concat_length] at e1
    rw [List.getElem?_concat_length] at e2
    cases e1; cases e2
    exact ⟨h1, h2, h3, h4, h5, h6, h7, h8.upd u (by omega), h9⟩
end
set_option maxRecDepth 100000 in
theorem ctr11 {w0 w : World} {own : OwnM Nat} {xs ys : List Nd} {RW : List Rw} {s : SL} (root : Int) {a3 : Option Addr} {l3 : Nat} (c3 : Nat) (h : JN w0 w own xs RW s) (hy : RNds w0 a3 l3 ys) (hz : Sz ys) (hxl : xs.length ≤ 1000000) (hc : Closed ys) (hr : 0 ≤ root ∧ root ≤ 1000000) :
    Calls Tryz.prog 11 #[.slice s.1 s.2.1 s.2.2, .agg #[.int .i64 root, .slice a3 l3 c3]] w fun en w' => ∃ a l c x, en = .returned (.tuple #[.slice a l c, .int .i64 x]) ∧
      (x = (xs.length : Int) + root ∧ ∃ own' RW', JN w0 w' own' (app xs ys) RW' (a, l, c) ∧ Fr own own' w w') := by
  refine calls11 _ _ _ _ _ _ _ _ w ?_
  have hn := hz.len
  have hl3 := hy.len
  have hs1 : s.2.1 = xs.length := by rw [h.out.len, h.len]
  refine AllocK.mk fun b4 w5 hb4 hB4 x5 => ?_
  have h5 := h.ext x5
  have u4 : Ub own w5 b4 _ _ := ⟨hB4, h.loc.top b4 (by omega)⟩
  refine ⟨_, _, _, (blkAt2 hB4).2.1, ?_⟩
  refine ⟨fun a l c i w' => ∃ (k : Nat) (own' : OwnM Nat) (RW' : List Rw), i = k ∧ k ≤ ys.length ∧ JN w0 w' own' (xs ++ (ys.take k).map (shift xs.length)) RW' (a, l, c) ∧ Ub own' w' b4 #[.int .i64 root, .slice a3 l3 c3] 24 ∧ Fr own own' w w', fun _ _ _ i _ => ys.length - i.toNat, ⟨⟨0, own, RW, rfl, by omega, by simpa using h5, u4, Fr.of_ext own x5⟩, trivial⟩, ?_⟩
  rintro w9 a10 l10 c10 _ ⟨k, own1, RW1, rfl, hk, J, u4, F9⟩
  refine BoolK.mk (fun t => ?_) (fun t => ?_)
  · have hlt : k < ys.length := by have := of_decide_eq_true t; omega
    have hym := List.getElem_mem hlt
    have hks := hz.ks _ hym
    obtain ⟨b12, ha, n0, n1, n2, n3, n4, ⟨a16, l16, c16, n5, n6⟩, ⟨a17, l17, c17, n7, n8⟩, nw⟩ := ndAt hy (Ext.refl w0) hlt
    have y9 := J.loc.below
    have e17 := n8.len
    refine ⟨⟨by omega, by omega⟩, adK ha ⟨_, y9.cell n0, _, y9.cell n1, _, y9.cell n2, _, _, _, y9.cell n5, _, _, _, y9.cell n7, ?_⟩⟩
    refine local5 fun b18 w24 hb18 hB18 x24 => ?_
    have u18 : Upd own1 (setOwn own1 (some b18) 5) 5 w9 w24 := Upd.fresh x24 (by omega) hB18.lt _
    have bx18 : Bx (setOwn own1 (some b18) 5) 5 w24 b18 _ _ := ⟨hB18, by unfold setOwn; rw [if_pos rfl]⟩
    have J := J.upd u18 (by decide) (fun q _ => by omega)
    have u4 := u4.fr u18.fr
    have F24 := F9.trans u18.fr
    generalize setOwn own1 (some b18) 5 = own2 at J u4 bx18 F24
    clear u18
    refine ⟨_, _, _, (blkAt5 bx18.blk (Ext.refl w24)).2.2.2.2, ⟨by omega, by omega, by omega, by omega⟩, ?_⟩
    rw [Int.toNat_natCast]
    have hxk : (xs ++ (ys.take k).map (shift xs.length)).length = xs.length + k := by simp; omega
    refine RowR.make (x := (0 : Int)) (enc := eI) rfl (by simp only [maxLen]; omega) own2 (10 + (xs.length + k)) fun b26 w27 r26 u26 x27 hb26 => ?_
    have J := J.upd u26 (by omega) (fun q hq => by omega)
    have u4 := u4.fr u26.fr
    have bx18 := bx18.upd u26 (by omega)
    have F27 := F24.trans u26.fr
    generalize setOwn own2 (some b26) (10 + (xs.length + k)) = own3 at J u4 bx18 r26 F27
    clear u26
    refine ⟨_, _, _, (blkAt5 bx18.blk (Ext.refl w27)).2.2.2.2, ?_⟩
    refine ⟨fun i w' => ∃ (m : Nat) (kk : List Int), i = m ∧ m ≤ l17 ∧ JN w0 w' own3 (xs ++ (ys.take k).map (shift xs.length)) RW1 (a10, l10, c10) ∧ Ub own3 w' b4 #[.int .i64 root, .slice a3 l3 c3] 24 ∧ Bx own3 5 w' b18 #[.string ys[k].kd, .int .i64 ys[k].n, .string ys[k].tx, .slice a16 l16 c16, .slice a17 l17 c17] 34 ∧
        RowR own3 (10 + (xs.length + k)) 3 1 eI w' (some ⟨b26, 0, none⟩, l17, l17) kk ∧ kk.length = l17 ∧ Fr own own3 w w' ∧ ∀ j, j < m → kk[j]? = (ys[k].ks[j]?).map fun v => (xs.length : Int) + v, fun i _ => l17 - i.toNat,
      ⟨⟨0, _, rfl, by omega, J, u4, bx18, r26, by simp, F27, fun j hj => by omega⟩, trivial⟩, ?_⟩
    clear J u4 bx18 r26 F27
    rintro w31 _ ⟨m, kk, rfl, hm, J, u4, bx18, rk, hkl, F31, hkk⟩
    refine BoolK.mk (fun t => ?_) (fun t => ?_)
    · have hmlt : m < l17 := by have := of_decide_eq_true t; omega
      have hmk : m < ys[k].ks.length := by omega
      obtain ⟨b33, ha2, q0⟩ := ksAt n8 J.loc.below hmk
      have hkb := hc _ hym _ (List.getElem_mem hmk)
      refine ⟨⟨by omega, by omega⟩, adK ha2 ⟨_, q0, ⟨by omega, by omega⟩, ?_⟩⟩
      rw [hs1, wrap_id (x := (xs.length : Nat) + ys[k].ks[m]) (by omega) (by omega), wrap_succ (by omega)]
      refine RowR.seti rk (by omega) _ fun w35 rk' u35 => ?_
      refine ⟨⟨m + 1, _, rfl, by omega, J.upd u35 (by omega) (fun q hq => by omega), u4.fr u35.fr, bx18.upd u35 (by omega), rk', by simpa using hkl, F31.trans u35.fr, fun j hj => ?_⟩, by simp; omega⟩
      rw [List.getElem?_set]
      by_cases e : m = j
      · subst e
        rw [if_pos rfl, if_pos (by omega), List.getElem?_eq_getElem hmk]; rfl
      · rw [if_neg e]; exact hkk j (by omega)
    · have hml : m = l17 := by have := of_decide_eq_false t; omega
      subst hml
      have hks2 : kk = (shift xs.length ys[k]).ks := by
        apply List.ext_getElem?
        intro j
        rw [shift, List.getElem?_map]
        rcases Nat.lt_or_ge j m with hj | hj
        · exact hkk j hj
        · rw [List.getElem?_eq_none (by omega), List.getElem?_eq_none (by omega)]; rfl
      subst hks2
      refine Bx.setA bx18 (by simp) fun w36 bx36 u36 => ?_
      have J := J.upd u36 (by omega) (fun q _ => by omega)
      have u4 := u4.fr u36.fr
      have rk := rk.upd u36 (by omega)
      obtain ⟨f0, f1, f2, f3, f4⟩ := blkAt5 (v0 := .string ys[k].kd) (v1 := .int .i64 ys[k].n) (v2 := .string ys[k].tx) (v3 := .slice a16 l16 c16) (v4 := .slice (some ⟨b26, 0, none⟩) m m) (by simpa using bx36.blk) (Ext.refl w36)
      refine ⟨_, by simpa [add_mk] using f0, _, f1, _, f2, _, _, _, f3, _, _, _, f4, ?_⟩
      refine RowR.push (⟨ys[k].kd, ys[k].n, ys[k].tx, (a16, l16, c16), (some ⟨b26, 0, none⟩, m, m)⟩ : Rw) sltN J.out eN_len eN_one (by rw [J.len, hxk]; omega) rfl fun s' w45 ro uo => ?_
      rw [wrap_succ (by omega)]
      have ht : xs ++ (ys.take (k + 1)).map (shift xs.length) = (xs ++ (ys.take k).map (shift xs.length)) ++ [shift xs.length ys[k]] := by
        rw [List.take_add_one, List.getElem?_eq_getElem hlt, List.map_append]; simp
      have J2 := J.more (x := shift xs.length ys[k]) rfl rfl rfl n3 n4 nw n6 (by rw [hxk]; exact rk) (by simp [shift, maxLen]; omega) uo ro
      rw [← ht] at J2
      exact ⟨⟨k + 1, _, _, rfl, by omega, J2, u4.fr uo.fr, (F31.trans u36.fr).trans uo.fr⟩, by simp; omega⟩
  · have hkl : k = ys.length := by have := of_decide_eq_false t; omega
    subst hkl
    rw [List.take_length] at J
    refine DrewK.mk fun w46 x46 => ⟨_, (blkAt2 (u4.blk.ext x46)).2.2, ?_⟩
    rw [hs1, wrap_id (by omega) (by omega)]
    exact ⟨rfl, own1, RW1, J.ext x46, F9.trans (Fr.of_ext _ x46)⟩
end Go.Proofs.YtbiamhoonhjodabGreatDoor

namespace Go.Proofs.YtbiamhoonhjodabGreatDoor
open Go Go.V Go.Proofs
open Go.RowKit (Below)
/-! manystrand/graph.Compare -/
def N6 (x1 : Int) (a2 : Option Addr) (l2 : Nat) (c2 : Nat) (x3 : Int) (a4 : Option Addr) (l4 : Nat) (c4 : Nat) (K : Int → Int → World → Prop) (w : World) : Prop :=
 AllocK w (#[(.int .i64 x1), (.slice a2 l2 c2)]) 24 fun b5 w6 =>
 AllocK w6 (#[(.int .i64 x3), (.slice a4 l4 c4)]) 24 fun b7 w8 =>
 ∃ (x9 : Int), w8.cell? (b5.add 0) = some (.int .i64 x9) ∧
 (∃ (a10 : Option Addr) (l10 : Nat) (c10 : Nat), w8.cell? (b5.add 1) = some (.slice a10 l10 c10) ∧
 (Calls Tryz.prog 10 #[(.agg #[(.int .i64 x9), (.slice a10 l10 c10)])] w8 fun e15 w14 =>
 ∃ (x11 : Int), ∃ (a12 : Option Addr), ∃ (l12 : Nat), ∃ (c12 : Nat), ∃ (x13 : Int), e15 = .returned (.tuple #[(.agg #[(.int .i64 x11), (.slice a12 l12 c12)]), (.int .i64 x13)]) ∧
 (AllocK w14 (#[.int .i64 0, .slice none 0 0]) 24 fun b16 w17 =>
 SetK w17 (b16.add 0) (.int .i64 x11) fun w18 =>
 SetK w18 (b16.add 1) (.slice a12 l12 c12) fun w19 =>
 BoolK ((x13 : Int) != 0)
 (K 0 x13 w19)
 (∃ (x20 : Int), w19.cell? (b7.add 0) = some (.int .i64 x20) ∧
 (∃ (a21 : Option Addr) (l21 : Nat) (c21 : Nat), w19.cell? (b7.add 1) = some (.slice a21 l21 c21) ∧
 (Calls Tryz.prog 10 #[(.agg #[(.int .i64 x20), (.slice a21 l21 c21)])] w19 fun e26 w25 =>
 ∃ (x22 : Int), ∃ (a23 : Option Addr), ∃ (l23 : Nat), ∃ (c23 : Nat), ∃ (x24 : Int), e26 = .returned (.tuple #[(.agg #[(.int .i64 x22), (.slice a23 l23 c23)]), (.int .i64 x24)]) ∧
 (AllocK w25 (#[.int .i64 0, .slice none 0 0]) 24 fun b27 w28 =>
 SetK w28 (b27.add 0) (.int .i64 x22) fun w29 =>
 SetK w29 (b27.add 1) (.slice a23 l23 c23) fun w30 =>
 BoolK ((x24 : Int) != 0)
 (K 0 x24 w30)
 (∃ (x31 : Int), w30.cell? (b16.add 0) = some (.int .i64 x31) ∧
 (∃ (a32 : Option Addr) (l32 : Nat) (c32 : Nat), w30.cell? (b16.add 1) = some (.slice a32 l32 c32) ∧
 (Calls Tryz.prog 11 #[(.slice none 0 0), (.agg #[(.int .i64 x31), (.slice a32 l32 c32)])] w30 fun e36 w35 =>
 ∃ (a33 : Option Addr), ∃ (l33 : Nat), ∃ (c33 : Nat), ∃ (x34 : Int), e36 = .returned (.tuple #[(.slice a33 l33 c33), (.int .i64 x34)]) ∧
 (AllocK w35 (#[.slice none 0 0]) 22 fun b37 w38 =>
 SetK w38 b37 (.slice a33 l33 c33) fun w39 =>
 ∃ (a40 : Option Addr) (l40 : Nat) (c40 : Nat), w39.cell? b37 = some (.slice a40 l40 c40) ∧
 (∃ (x41 : Int), w39.cell? (b27.add 0) = some (.int .i64 x41) ∧
 (∃ (a42 : Option Addr) (l42 : Nat) (c42 : Nat), w39.cell? (b27.add 1) = some (.slice a42 l42 c42) ∧
 (Calls Tryz.prog 11 #[(.slice a40 l40 c40), (.agg #[(.int .i64 x41), (.slice a42 l42 c42)])] w39 fun e46 w45 =>
 ∃ (a43 : Option Addr), ∃ (l43 : Nat), ∃ (c43 : Nat), ∃ (x44 : Int), e46 = .returned (.tuple #[(.slice a43 l43 c43), (.int .i64 x44)]) ∧
 (SetK w45 b37 (.slice a43 l43 c43) fun w47 =>
 ∃ (a48 : Option Addr) (l48 : Nat) (c48 : Nat), w47.cell? b37 = some (.slice a48 l48 c48) ∧
 (Calls Tryz.prog 12 #[(.int .i64 (l48 : Nat)), (.func (.func 13) #[] #[(.pointer (some b37))])] w47 fun e51 w50 =>
 ∃ (a49 : Option Addr), ∃ (l49 : Nat), ∃ (c49 : Nat), e51 = .returned (.slice a49 l49 c49) ∧
 (AllocK w50 (#[.slice none 0 0]) 32 fun b52 w53 =>
 SetK w53 b52 (.slice a49 l49 c49) fun w54 =>
 ∃ (a55 : Option Addr) (l55 : Nat) (c55 : Nat), w54.cell? b52 = some (.slice a55 l55 c55) ∧
 (∃ (a56 : Option Addr) (l56 : Nat) (c56 : Nat), w54.cell? b37 = some (.slice a56 l56 c56) ∧
 (∃ (I57 : Option Addr → Nat → Nat → Int → World → Prop) (μ58 : Option Addr → Nat → Nat → Int → World → Nat),
 (I57 a55 l55 c55 0 w54 ∧ True) ∧
 ∀ (w59 : World) (a60 : Option Addr) (l60 : Nat) (c60 : Nat) (x61 : Int), I57 a60 l60 c60 x61 w59 →
 BoolK (decide ((x61 : Int) < IntKind.wrap .i64 ((l56 : Nat) + 1)))
 (DrewK w59 fun w62 =>
 (0 ≤ (x34 : Int) ∧ (x34 : Int) < (l60 : Nat)) ∧
 AddrK a60 fun b63 =>
 ∃ (x64 : Int), w62.cell? (b63.add ((x34 : Int).toNat * 1)) = some (.int .i64 x64) ∧
 ((0 ≤ (x44 : Int) ∧ (x44 : Int) < (l60 : Nat)) ∧
 AddrK a60 fun b65 =>
 ∃ (x66 : Int), w62.cell? (b65.add ((x44 : Int).toNat * 1)) = some (.int .i64 x66) ∧
 (BoolK ((x64 : Int) != x66)
 (DrewK w62 fun w67 =>
 (0 ≤ (x34 : Int) ∧ (x34 : Int) < (l60 : Nat)) ∧
 AddrK a60 fun b68 =>
 ∃ (x69 : Int), w67.cell? (b68.add ((x34 : Int).toNat * 1)) = some (.int .i64 x69) ∧
 ((0 ≤ (x44 : Int) ∧ (x44 : Int) < (l60 : Nat)) ∧
 AddrK a60 fun b70 =>
 ∃ (x71 : Int), w67.cell? (b70.add ((x44 : Int).toNat * 1)) = some (.int .i64 x71) ∧
 (Calls Tryz.prog 15 #[(.int .i64 x69), (.int .i64 x71)] w67 fun e74 w73 =>
 ∃ (x72 : Int), e74 = .returned (.int .i64 x72) ∧
 (K x72 0 w73))))
 (AllocK w62 (#[.slice none 0 0]) 32 fun b75 w76 =>
 SetK w76 b75 (.slice a60 l60 c60) fun w77 =>
 ∃ (a78 : Option Addr) (l78 : Nat) (c78 : Nat), w77.cell? b37 = some (.slice a78 l78 c78) ∧
 (Calls Tryz.prog 12 #[(.int .i64 (l78 : Nat)), (.func (.func 16) #[] #[(.pointer (some b52)), (.pointer (some b37)), (.pointer (some b75))])] w77 fun e81 w80 =>
 ∃ (a79 : Option Addr), ∃ (l79 : Nat), ∃ (c79 : Nat), e81 = .returned (.slice a79 l79 c79) ∧
 (I57 a79 l79 c79 (IntKind.wrap .i64 (x61 + 1)) w80 ∧ μ58 a79 l79 c79 (IntKind.wrap .i64 (x61 + 1)) w80 < μ58 a60 l60 c60 x61 w59))))))
 (K 0 0 w59))))))))))))))))))))
def ann6 : Ann := (.two .nil (.two .nil (.two (.two .nil (.two (.two .nil .nil) .nil)) (.two .nil (.two (.two .nil (.two (.two .nil .nil) .nil)) (.two .nil (.two .nil (.two .nil (.two .nil (.two (.two .nil (.one (.loop [(13, (.one .slice)), (50, (.one (.int .i64)))] [9, 10, 11, 12, 49] (.two .nil (.two (.two .nil .nil) (.two (.one (.two (.two (.anyC 9 (.take 0 (.take 1 (.take 2 (.take 3 (.take 4 (.take 5 (.take 6 (.take 7 (.take 8 .done)))))))))) (.two (.two (.anyC 8 (.take 0 (.take 1 (.take 2 (.take 3 (.take 4 (.take 5 (.take 6 (.take 7 .done))))))))) .nil) .nil)) (.two .nil .nil))) .nil)))))) (.two .nil .nil)))))))))))
noncomputable def code6 : Code := match Tryz.f6.body with | some c => c | none => .skip
theorem wp6 (x1 : Int) (a2 : Option Addr) (l2 : Nat) (c2 : Nat) (x3 : Int) (a4 : Option Addr) (l4 : Nat) (c4 : Nat) (K : Int → Int → World → Prop) (w : World) : WP Tryz.prog tab code6 ann6 (fnQ tab Tryz.f6.results.toList [(.one (.int .i64)), (.one (.int .i64))] K) (argE 0 [(.agg #[(.int .i64 x1), (.slice a2 l2 c2)]), (.agg #[(.int .i64 x3), (.slice a4 l4 c4)])]) w = N6 x1 a2 l2 c2 x3 a4 l4 c4 K w := by kernel_rfl
theorem calls6 (x1 : Int) (a2 : Option Addr) (l2 : Nat) (c2 : Nat) (x3 : Int) (a4 : Option Addr) (l4 : Nat) (c4 : Nat) (K : Int → Int → World → Prop) (w : World) (h : N6 x1 a2 l2 c2 x3 a4 l4 c4 K w) : Calls Tryz.prog 6 #[(.agg #[(.int .i64 x1), (.slice a2 l2 c2)]), (.agg #[(.int .i64 x3), (.slice a4 l4 c4)])] w fun en w' => ∃ (x82 : Int), ∃ (x83 : Int), en = .returned (.tuple #[(.int .i64 x82), (.int .i64 x83)]) ∧ K x82 x83 w' :=
 have e : (fun en w' => ExShs [(.one (.int .i64)), (.one (.int .i64))] fun vs => en = .returned (tupled vs) ∧ ap [(.one (.int .i64)), (.one (.int .i64))] K vs fun p => p w') = (fun (en : Ending) (w' : World) => ∃ (x82 : Int), ∃ (x83 : Int), en = .returned (.tuple #[(.int .i64 x82), (.int .i64 x83)]) ∧ K x82 x83 w') := by kernel_rfl
 e ▸ fn_sound tabOk mixed Tryz.func6 (by kernel_rfl : Tryz.f6.body = some code6) ann6 [(.agg #[(.int .i64 x1), (.slice a2 l2 c2)]), (.agg #[(.int .i64 x3), (.slice a4 l4 c4)])] [(.one (.int .i64)), (.one (.int .i64))] K w (by kernel_rfl) ((wp6 x1 a2 l2 c2 x3 a4 l4 c4 K w).symm ▸ h)
end Go.Proofs.YtbiamhoonhjodabGreatDoor

namespace Go.Proofs.YtbiamhoonhjodabGreatDoor
open Go Go.V Go.Proofs Go.V.Gr
open Go.RowKit (Below)
open Go.Lib (compareBytes)
def isS (a : Int) : Prop := a = -1 ∨ a = 0 ∨ a = 1
theorem fz_s : ∀ {l : List Int}, (∀ a ∈ l, isS a) → isS (fz l)
  | [], _ => .inr (.inl rfl)
  | a :: l, h => by
    unfold fz; split
    · exact fz_s fun x hx => h x (List.mem_cons_of_mem _ hx)
    · exact h a (by simp)
theorem sg_s (a b : Int) : isS (sg a b) := by unfold sg isS; repeat' split <;> omega
theorem cF_s (f g : Ft) : isS (cF f g) := by unfold cF isS; repeat' split <;> omega
theorem cHd_s (x y : Nd) : isS (cHd x y) := by
  refine fz_s fun a ha => ?_
  simp only [List.mem_cons, List.not_mem_nil, or_false] at ha
  rcases ha with rfl | rfl | rfl | rfl | rfl
  · exact sg_s _ _
  · exact cb_sign _ _
  · exact sg_s _ _
  · exact sg_s _ _
  · refine fz_s fun a ha => ?_
    obtain ⟨i, hi⟩ := List.getElem?_of_mem ha
    rw [List.getElem?_zipWith] at hi
    split at hi <;> cases hi
    exact cF_s _ _
theorem cK_s (l l' : List Nd) : ∀ d i j, isS (cK cHd l l' d i j)
  | 0, _, _ => cHd_s _ _
  | d + 1, i, j => by
    refine fz_s fun a ha => ?_
    simp only [List.mem_cons, List.not_mem_nil, or_false] at ha
    rcases ha with rfl | rfl
    · exact cHd_s _ _
    · refine fz_s fun a ha => ?_
      obtain ⟨m, hm⟩ := List.getElem?_of_mem ha
      rw [List.getElem?_zipWith] at hm
      split at hm <;> cases hm
      exact cK_s l l' d _ _
def cGr (xs ys : List Nd) (i j : Nat) : Int := cG cHd xs ys i j (xs.length + ys.length)
theorem app_vl {xs ys : List Nd} (hx : VL VN1 xs) (hy : VL VN1 ys) : VL VN1 (app xs ys) := by
  refine ⟨fun x hm => ?_, app_closed hx.c hy.c⟩
  have hm0 := hm
  rcases List.mem_append.1 hm with h | h
  · exact hx.v x h
  · obtain ⟨y, hy', rfl⟩ := List.mem_map.1 h
    obtain ⟨n, hn⟩ := hy.v y hy'
    exact ⟨((app xs ys).length : Int), hn.of_hd (shift_hd _ _) (app_closed hx.c hy.c _ hm0)⟩
theorem deep_two {xs ys : List Nd} (hx : Closed xs) (hy : Closed ys) {i j N : Nat} (hi : i < xs.length) (hj : j < ys.length) (hN : xs.length + ys.length ≤ N) (h : EqK xs ys N i j) : Eqv xs ys i j := by
  have h1 : EqK (app xs ys) (app xs ys) (app xs ys).length i (xs.length + j) := by
    refine EqK.le (d := N) ?_ (by rw [app_len]; exact hN)
    exact ((app_left hx hi).symm N |>.trans h).trans (app_right hy hj N)
  have := eqv_of_depth (app_closed hx hy) (by rw [app_len]; omega) (by rw [app_len]; omega) h1
  exact (app_eqv hx hy hi hj).1 this
theorem cG_congr {l l1 l' l1' : List Nd} {i i1 j j1 N : Nat} (h : Eqv l l1 i i1) (h' : Eqv l' l1' j j1) : cG cHd l l' i j N = cG cHd l1 l1' i1 j1 N := by
  unfold cG; congr 1
  exact List.map_congr_left fun t _ => cK_congr cHd_congr t i i1 j j1 (h t) (h' t)
theorem least_len {xs out : List Nd} {i : Nat} (h : Least xs i out) (hc : Closed xs) (hi : i < xs.length) : out.length ≤ xs.length := by
  obtain ⟨vs, d, G⟩ := h
  have hvV := d.lt hc (by simpa using hi) (by simp)
  have haV := d.apart (fun a b x y e => by simp at e)
  have := vs_len haV hvV
  rw [G.len]; exact this
theorem cGr_least {xs ys x y : List Nd} {i j : Nat} (hx : VL VN1 xs) (hy : VL VN1 ys) (hx' : VL VN1 x) (hy' : VL VN1 y) (hi : i < xs.length) (hj : j < ys.length) (h1 : Least xs i x) (h2 : Least ys j y) : cG cHd x y 0 0 (x.length + y.length) = cGr xs ys i j := by
  have l1 := least_len h1 hx.c hi; have l2 := least_len h2 hy.c hj
  have p1 := h1.pos; have p2 := h2.pos
  have d := cG_deep hdC hx' hy' (i := 0) (j := 0) (N := x.length + y.length) p1 p2 (deep_two hx'.c hy'.c p1 p2 (Nat.le_refl _)) (xs.length + ys.length - (x.length + y.length))
  rw [show x.length + y.length + (xs.length + ys.length - (x.length + y.length)) = xs.length + ys.length by omega] at d
  rw [← d]
  exact cG_congr h1.eqv h2.eqv
theorem setOne {w : World} {b t : Nat} {z0 v0 : Value} {F : World → Prop} (hb : Blk w b #[z0] t) (h : ∀ w', Blk w' b #[v0] t → But b w w' → F w') : SetK w (⟨b, 0, none⟩ : Addr) v0 F :=
  SetK.mk hb (by simp) fun w2 h2 g2 => h w2 (by simpa using h2) g2
theorem GrOk.app {r r' : Int} {xs ys : List Nd} (h : GrOk r xs 1000) (h' : GrOk r' ys 1000) (hl : Lim xs) (hl' : Lim ys) : Sz (app xs ys) := app_sz (h.sz (by omega) hl) (h'.sz (by omega) hl') (by have := h.most; have := h'.most; omega)
set_option maxRecDepth 100000 in
theorem ctr6 (w : World) (r r' : Int) (xs ys : List Nd) {a a' : Option Addr} {l l' : Nat} (c c' : Nat) (hx : RNds w a l xs) (hy : RNds w a' l' ys) (hlx : Lim xs ∧ LimT xs) (hly : Lim ys ∧ LimT ys) (ht : Tb w) :
    Calls Tryz.prog 6 #[.agg #[.int .i64 r, .slice a l c], .agg #[.int .i64 r', .slice a' l' c']] w fun en w' => ∃ n e, en = .returned (.tuple #[.int .i64 n, .int .i64 e]) ∧
      (Ext w w' ∧ ((GrOk r xs 1000 ∧ GrOk r' ys 1000 ∧ e = 0 ∧ n = cGr xs ys r.toNat r'.toNat) ∨ (¬ (GrOk r xs 1000 ∧ GrOk r' ys 1000) ∧ e = 50 ∧ n = 0))) := by
  refine calls6 _ _ _ _ _ _ _ _ _ w ?_
  refine AllocK.mk fun b5 w6 hb5 hB5 x6 => AllocK.mk fun b7 w8 hb7 hB7 x8 => ?_
  have y8 := x6.trans x8
  obtain ⟨g0, g1, _⟩ := blkAt2 (hB5.ext x8)
  refine ⟨_, g0, _, _, _, g1, (ctr10 w8 r xs c (RNds.at hx y8) hlx.1 (ht.ext y8)).mono ?_⟩
  rintro en w14 ⟨x11, a12, l12, c12, e13, rfl, o1⟩
  have A1 : ∃ j, ((GrOk r xs 1000 ∧ j = some r.toNat) ∨ (¬ GrOk r xs 1000 ∧ j = none)) ∧ Ans w8 w14 xs j 50 x11 (a12, l12, c12) e13 := by
    rcases o1 with ⟨h1, h2⟩ | ⟨h1, h2⟩
    · exact ⟨_, .inl ⟨h1, rfl⟩, h2⟩
    · exact ⟨_, .inr ⟨h1, rfl⟩, h2⟩
  clear o1
  obtain ⟨j1, hj1, A1⟩ := A1
  obtain ⟨x14, rfl, x, rx, k1⟩ := A1.rows
  refine ⟨_, _, _, _, _, rfl, local2 fun b16 w19 hb16 hB16 x19 => ?_⟩
  have y19 := (y8.trans x14).trans x19
  refine BoolK.mk (fun t => ⟨y19, .inr ?_⟩) (fun t => ?_)
  · have t : e13 ≠ 0 := by simpa using t
    rcases k1 with ⟨_, _, e, _⟩ | ⟨e1, e2, _⟩
    · exact absurd e t
    · rcases hj1 with ⟨_, e3⟩ | ⟨nok, _⟩
      · rw [e1] at e3; cases e3
      · exact ⟨fun h => nok h.1, e2, rfl⟩
  have t : e13 = 0 := by simpa using t
  subst t
  rcases k1 with ⟨i1, e1, _, hL1, hG1⟩ | ⟨_, e2, _⟩
  rotate_left
  · omega
  rcases hj1 with ⟨ok, rfl⟩ | ⟨_, rfl⟩
  rotate_left
  · cases e1
  cases e1
  obtain ⟨h0, h1, _⟩ := blkAt2 (hB7.ext (x14.trans x19))
  refine ⟨_, h0, _, _, _, h1, (ctr10 w19 r' ys c' (RNds.at hy y19) hly.1 (ht.ext y19)).mono ?_⟩
  rintro en w25 ⟨x22, a23, l23, c23, e24, rfl, o2⟩
  have A2 : ∃ j, ((GrOk r' ys 1000 ∧ j = some r'.toNat) ∨ (¬ GrOk r' ys 1000 ∧ j = none)) ∧ Ans w19 w25 ys j 50 x22 (a23, l23, c23) e24 := by
    rcases o2 with ⟨h1, h2⟩ | ⟨h1, h2⟩
    · exact ⟨_, .inl ⟨h1, rfl⟩, h2⟩
    · exact ⟨_, .inr ⟨h1, rfl⟩, h2⟩
  clear o2
  obtain ⟨j2, hj2, A2⟩ := A2
  obtain ⟨x25, rfl, y, ry, k2⟩ := A2.rows
  refine ⟨_, _, _, _, _, rfl, local2 fun b27 w30 hb27 hB27 x30 => ?_⟩
  have y30 := (y19.trans x25).trans x30
  refine BoolK.mk (fun t => ⟨y30, .inr ?_⟩) (fun t => ?_)
  · have t : e24 ≠ 0 := by simpa using t
    rcases k2 with ⟨_, _, e, _⟩ | ⟨e1, e2, _⟩
    · exact absurd e t
    · rcases hj2 with ⟨_, e3⟩ | ⟨nok, _⟩
      · rw [e1] at e3; cases e3
      · exact ⟨fun h => nok h.2, e2, rfl⟩
  have t : e24 = 0 := by simpa using t
  subst t
  rcases k2 with ⟨i2, e1, _, hL2, hG2⟩ | ⟨_, e2, _⟩
  rotate_left
  · omega
  rcases hj2 with ⟨ok', rfl⟩ | ⟨_, rfl⟩
  rotate_left
  · cases e1
  cases e1
  -- both are right; their least graphs
  have sx := ok.sz (by omega) hlx.1
  have sy := ok'.sz (by omega) hly.1
  have gx := Least.ok hL1 ok ok.lt
  have gy := Least.ok hL2 ok' ok'.lt
  have lx := Least.lim hL1 ok.closed ok.lt sx.ks hlx.1 hlx.2
  have ly := Least.lim hL2 ok'.closed ok'.lt sy.ks hly.1 hly.2
  have mx := gx.most; have my := gy.most
  have px := hL1.pos; have py := hL2.pos
  have vA := app_vl gx.vl gy.vl
  have sA := gx.app gy lx.1 ly.1
  have hres : cG cHd x y 0 0 (x.length + y.length) = cGr xs ys r.toNat r'.toNat := cGr_least ok.vl ok'.vl gx.vl gy.vl ok.lt ok'.lt hL1 hL2
  have cK_app : ∀ t, cK cHd (app x y) (app x y) t 0 x.length = cK cHd x y t 0 0 := fun t => cK_congr cHd_congr t 0 0 x.length 0 ((app_left gx.closed px).symm t) ((app_right gy.closed py).symm t)
  clear A1 A2
  have rx : RNds w30 a12 l12 x := RNds.at rx (x19.trans (x25.trans x30))
  have ry : RNds w30 a23 l23 y := RNds.at ry x30
  obtain ⟨g0, g1, _⟩ := blkAt2 (hB16.ext (x25.trans x30))
  refine ⟨_, g0, _, _, _, g1, (ctr11 (w0 := w30) 0 c12 (JN.start w30) rx (gx.sz (by omega) lx.1) (by simp) gx.closed (by omega)).mono ?_⟩
  rintro en w35 ⟨a33, l33, c33, x34, rfl, rfl, own1, RW1, J1, F1⟩
  rw [app_nil] at J1
  refine ⟨_, _, _, _, rfl, AllocK.mk fun b37 w38 hb37 hB37 x38 => setOne hB37 fun w39 hB37 k39 => ?_⟩
  have o37 : own1 b37 = none := J1.loc.top b37 (by omega)
  have hb37w : w30.heap.size ≤ b37 := by have := J1.loc.below.size; omega
  have J1 := (J1.ext x38).but k39 o37 hb37w
  have u37 : Ub own1 w39 b37 _ _ := ⟨hB37, o37⟩
  have g37 : ∀ {w' : World} {own : OwnM Nat} {a : Option Addr} {l c : Nat}, Ub own w' b37 #[.slice a l c] 22 → w'.cell? (⟨b37, 0, none⟩ : Addr) = some (.slice a l c) := fun u => by rw [u.blk.cell]; rfl
  obtain ⟨h0, h1, _⟩ := blkAt2 (hB27.ext J1.loc.below)
  refine ⟨_, _, _, g37 u37, _, h0, _, _, _, h1, (ctr11 0 c23 J1 ry (gy.sz (by omega) ly.1) (by omega) gy.closed (by omega)).mono ?_⟩
  rintro en w45 ⟨a43, l43, c43, x44, rfl, rfl, own2, RW2, J2, F2⟩
  have u37 := u37.fr F2
  refine ⟨_, _, _, _, rfl, setOne u37.blk fun w47 hB47 k47 => ?_⟩
  have J2 := J2.but k47 u37.free hb37w
  have hlen : (app x y).length = x.length + y.length := app_len _ _
  have rN : RNds w47 a43 l43 (app x y) := J2.rows (by rw [hlen]; simp only [maxLen]; omega)
  have l43e := rN.len
  have x47 : Ext w30 w47 := J2.loc.below
  have y47 := y30.trans x47
  have c37 : w47.cell? (⟨b37, 0, none⟩ : Addr) = some (.slice a43 l43 c43) := by rw [hB47.cell]; rfl
  refine ⟨_, _, _, c37, ?_⟩
  rw [l43e]
  have NEG : ∀ t i j, i < (app x y).length → j < (app x y).length → cK cHd (app x y) (app x y) t j i = - cK cHd (app x y) (app x y) t i j := fun t i j hi hj => cK_neg hdC vA vA t i j hi hj
  have TRI : ∀ t i j k, i < (app x y).length → j < (app x y).length → k < (app x y).length → Tri (cK cHd (app x y) (app x y) t i j) (cK cHd (app x y) (app x y) t j k) (cK cHd (app x y) (app x y) t i k) := fun t i j k hi hj hk => cK_tri hdC vA vA vA t i j k hi hj hk
  refine (ctr12 (n := (app x y).length) (cf := fun i j => cK cHd (app x y) (app x y) 0 i j) (g := 13) (k3 := #[.pointer (some ⟨b37, 0, none⟩)]) (by omega) (by omega) (Tryz.call13) (fun w' xw i j hi hj => ?_) (NEG 0) (TRI 0) (fun i j _ _ => cK_s _ _ 0 i j)).mono ?_
  · refine (xtr13 w' (xw.cell c37) (RNds.at rN xw) vA hi hj).mono ?_
    rintro e w2 ⟨_, rfl, rfl, h⟩
    exact ⟨rfl, h⟩
  rintro en w50 ⟨a49, l49, c49, rfl, fi, hfi, Ifi, x50⟩
  refine ⟨_, _, _, rfl, AllocK.mk fun b52 w53 hb52 hB52 x53 => setOne hB52 fun w54 hB54 k54 => ?_⟩
  have x54 : Ext w50 w54 := k54.below x53 (by omega)
  have c52 : w54.cell? (⟨b52, 0, none⟩ : Addr) = some (.slice a49 l49 c49) := by rw [hB54.cell]; rfl
  have x54' := x50.trans x54
  have Ifi := Ifi.ext RInt.mono x54
  have l49e := Ifi.1
  have hfil := hfi.1
  refine ⟨_, _, _, c52, _, _, _, x54'.cell c37, ?_⟩
  have wl : IntKind.wrap .i64 (((l43 : Nat) : Int) + 1) = ((x.length + y.length + 1 : Nat) : Int) := by rw [l43e, hlen, wrap_succ (by omega)]
  rw [wl]
  refine ⟨fun a l c t w' => ∃ (k : Nat) (la : List Int), t = k ∧ k ≤ x.length + y.length + 1 ∧ Ext w54 w' ∧ Ints w' a l la ∧ Rk (app x y).length la (fun i j => cK cHd (app x y) (app x y) k i j) ∧ ∀ q, q < k → cK cHd x y q 0 0 = 0, fun _ _ _ t _ => x.length + y.length + 1 - t.toNat,
    ⟨⟨0, fi, rfl, by omega, Ext.refl _, Ifi, hfi, fun q hq => by omega⟩, trivial⟩, ?_⟩
  rintro w59 a60 l60 c60 _ ⟨k, la, rfl, hk, x59, Ila, hla, hz⟩
  have l60e := Ila.1
  have hlal := hla.1
  have y59 := y47.trans (x54'.trans x59)
  have atL : ∀ {w' : World} {i : Nat}, Ext w59 w' → i < (app x y).length → ∃ b, a60 = some b ∧ w'.cell? (b.add (((i : Nat) : Int).toNat * 1)) = some (.int .i64 (ga la i)) := fun xx hi => by
    obtain ⟨b, o, ha, h0⟩ := (Rows.ext RInt.mono Ila xx).get (i := _) (by rw [hlal]; exact hi)
    exact ⟨_, ha, by rw [Int.toNat_natCast, add_mk, ga_get (by rw [hlal]; exact hi)]; exact h0⟩
  have p0 : ((([] : List Nd).length : Nat) : Int) + 0 = ((0 : Nat) : Int) := by simp
  have p1 : ((x.length : Nat) : Int) + 0 = ((x.length : Nat) : Int) := by omega
  rw [p0, p1]
  have i0 : 0 < (app x y).length := by omega
  have i1 : x.length < (app x y).length := by omega
  have hsg : sg (ga la 0) (ga la x.length) = cK cHd (app x y) (app x y) k 0 x.length := hla.2 0 x.length i0 i1
  rw [cK_app] at hsg
  refine BoolK.mk (fun t => DrewK.mk fun w62 x62 => ?_) (fun t => ?_)
  · have hlt : k < x.length + y.length + 1 := by have := of_decide_eq_true t; omega
    obtain ⟨b63, e63, v63⟩ := atL x62 i0
    obtain ⟨b65, e65, v65⟩ := atL x62 i1
    refine ⟨⟨by omega, by omega⟩, adK e63 ⟨_, v63, ⟨by omega, by omega⟩, adK e65 ⟨_, v65, BoolK.mk (fun t1 => DrewK.mk fun w67 x67 => ?_) (fun t1 => ?_)⟩⟩⟩
    · have t1 : ga la 0 ≠ ga la x.length := by simpa using t1
      have hne : cK cHd x y k 0 0 ≠ 0 := fun e => t1 (sg_zero.1 (by rw [hsg, e]))
      obtain ⟨b68, e68, v68⟩ := atL (x62.trans x67) i0
      obtain ⟨b70, e70, v70⟩ := atL (x62.trans x67) i1
      refine ⟨⟨by omega, by omega⟩, adK e68 ⟨_, v68, ⟨by omega, by omega⟩, adK e70 ⟨_, v70, (ctr15 w67 _ _).mono ?_⟩⟩⟩
      rintro en w73 ⟨_, rfl, rfl, rfl⟩
      refine ⟨_, rfl, (y59.trans x62).trans x67, .inl ⟨ok, ok', rfl, ?_⟩⟩
      rw [hsg, ← hres, cG]
      symm
      refine fz_at (k := k) (fun m hm => ?_) ?_ hne
      · rw [List.getElem?_map, List.getElem?_range (by omega)]; simp [hz m hm]
      · rw [List.getElem?_map, List.getElem?_range (by omega)]; rfl
    · have t1 : ga la 0 = ga la x.length := by simpa using t1
      have h0 : cK cHd x y k 0 0 = 0 := by rw [← hsg]; exact sg_zero.2 t1
      refine AllocK.mk fun b75 w76 hb75 hB75 x76 => setOne hB75 fun w77 hB77 k77 => ?_
      have x77 : Ext w59 w77 := k77.below (x62.trans x76) (by have := x62.size; omega)
      have z77 := (x54'.trans x59).trans x77
      have c75 : w77.cell? (⟨b75, 0, none⟩ : Addr) = some (.slice a60 l60 c60) := by rw [hB77.cell]; rfl
      have d37 := z77.cell c37
      have d52 := (x59.trans x77).cell c52
      have rN77 := RNds.at rN z77
      have If77 := Ifi.ext RInt.mono (x59.trans x77)
      have Il77 := Ila.ext RInt.mono x77
      refine ⟨_, _, _, d37, ?_⟩
      rw [l43e]
      refine (ctr12 (n := (app x y).length) (cf := fun i j => cK cHd (app x y) (app x y) (k + 1) i j) (g := 16) (k3 := #[.pointer (some ⟨b52, 0, none⟩), .pointer (some ⟨b37, 0, none⟩), .pointer (some ⟨b75, 0, none⟩)]) (by omega) (by omega) (Tryz.call16) (fun w' xw i j hi hj => ?_) (NEG (k + 1)) (TRI (k + 1)) (fun i j _ _ => cK_s _ _ (k + 1) i j)).mono ?_
      · refine (xtr16 w' (xw.cell d37) (RNds.at rN77 xw) vA sA (xw.cell d52) (If77.ext RInt.mono xw) hfi (xw.cell c75) (Il77.ext RInt.mono xw) hlal hi hj).mono ?_
        rintro e w2 ⟨_, rfl, rfl, h⟩
        refine ⟨?_, h⟩
        have : List.zipWith (fun a b => sg (ga la a) (ga la b)) (kids (app x y) i) (kids (app x y) j) = List.zipWith (cK cHd (app x y) (app x y) k) (kids (app x y) i) (kids (app x y) j) := by
          apply List.ext_getElem?
          intro m
          rw [List.getElem?_zipWith, List.getElem?_zipWith]
          cases e1 : (kids (app x y) i)[m]? with
          | none => rfl
          | some u =>
            cases e2 : (kids (app x y) j)[m]? with
            | none => rfl
            | some v => simp only [hla.2 u v (vA.kid hi u (List.mem_of_getElem? e1)) (vA.kid hj v (List.mem_of_getElem? e2))]
        rw [this]; rfl
      rintro en w80 ⟨a79, l79, c79, rfl, rk, hrk, Irk, x80⟩
      refine ⟨_, _, _, rfl, ?_⟩
      rw [wrap_succ (by omega)]
      refine ⟨⟨k + 1, rk, rfl, by omega, (x59.trans x77).trans x80, Irk, hrk, fun q hq => ?_⟩, by simp; omega⟩
      rcases Nat.lt_or_ge q k with h | h
      · exact hz q h
      · have : q = k := by omega
        subst this; exact h0
  · have hk2 : k = x.length + y.length + 1 := by have := of_decide_eq_false t; omega
    refine ⟨y59, .inl ⟨ok, ok', rfl, ?_⟩⟩
    rw [← hres, cG]
    symm
    refine fz_all.2 fun v hv => ?_
    obtain ⟨q, hq, rfl⟩ := List.mem_map.1 hv
    exact hz q (by have := List.mem_range.1 hq; omega)
end Go.Proofs.YtbiamhoonhjodabGreatDoor
