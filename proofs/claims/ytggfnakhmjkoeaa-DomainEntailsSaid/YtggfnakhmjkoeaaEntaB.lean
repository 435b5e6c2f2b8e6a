/- A part of the proof: plain forms of functions and laws about them. -/
import Derived.Test.YtggfnakhmjkoeaaEntaA
namespace Go.Proofs.Ytggfnakhmjkoeaa
open Go Go.V Go.Proofs
open Go.RowKit (Below)

theorem domAt {w : World} {a : Option Addr} {l : Nat} {d : List (Int × Int)} (h : Dom w a l d) (w' : World) (k : Ext w w') {i : Nat} (hi : i < d.length) :
    ∃ b o, a = some ⟨b, o, none⟩ ∧ w'.cell? ⟨b, o + i * 2, none⟩ = some (.int .i64 d[i].1) ∧ w'.cell? ⟨b, o + i * 2 + 1, none⟩ = some (.int .i64 d[i].2) := by
  obtain ⟨b, o, ha, h0, h1⟩ := (h.ext RPair.mono k).get hi
  exact ⟨b, o, ha, by simpa using h0, h1⟩
theorem intAt {w : World} {a : Option Addr} {l : Nat} {d : List Int} (h : Ints w a l d) (w' : World) (k : Ext w w') {i : Nat} (hi : i < d.length) :
    ∃ b o, a = some ⟨b, o, none⟩ ∧ w'.cell? ⟨b, o + i, none⟩ = some (.int .i64 d[i]) := by
  obtain ⟨b, o, ha, h0⟩ := (h.ext RInt.mono k).get hi
  exact ⟨b, o, ha, by simpa [RInt] using h0⟩

theorem validB_take {d : List (Int × Int)} {k : Nat} (hk : k < d.length) : validB (d.take (k + 1)) = (validB (d.take k) && decide (0 ≤ d[k].1 ∧ d[k].1 ≤ d[k].2 ∧ d[k].2 ≤ 1000 ∧ (∀ p, d[k-1]? = some p → 0 < k → p.2 + 2 ≤ d[k].1))) := by
  rw [Bool.eq_iff_iff, Bool.and_eq_true, decide_eq_true_eq, validB_iff, validB_iff]
  have hs : d.take (k + 1) = d.take k ++ [d[k]] := by rw [List.take_add_one, List.getElem?_eq_getElem hk]; rfl
  rw [hs]
  constructor
  · rintro ⟨h1, h2⟩
    rw [List.pairwise_append] at h2
    refine ⟨⟨fun p hp => h1 p (List.mem_append_left _ hp), h2.1⟩, ?_⟩
    have := h1 d[k] (List.mem_append_right _ (List.mem_singleton.2 rfl))
    refine ⟨this.1, this.2.1, this.2.2, fun p hp h0 => h2.2.2 p ?_ d[k] (by simp)⟩
    rw [List.mem_iff_getElem?]
    exact ⟨k - 1, by rw [List.getElem?_take, if_pos (by omega)]; exact hp⟩
  · rintro ⟨⟨h1, h2⟩, h3, h4, h5, h6⟩
    refine ⟨fun p hp => ?_, ?_⟩
    · rcases List.mem_append.1 hp with hp | hp
      · exact h1 p hp
      · simp at hp; subst hp; exact ⟨h3, h4, h5⟩
    · rw [List.pairwise_append]
      refine ⟨h2, by simp, fun p hp q hq => ?_⟩
      simp at hq; subst hq
      obtain ⟨i, hi⟩ := List.mem_iff_getElem?.1 hp
      have hik : i < k := by
        have := (List.getElem?_eq_some_iff.1 hi).1
        simp at this; omega
      rw [List.getElem?_take, if_pos hik] at hi
      have hlast := h6 d[k-1] (by rw [List.getElem?_eq_getElem]) (by omega)
      rcases Nat.lt_or_ge i (k - 1) with hlt | hge
      · have hpw := List.pairwise_iff_getElem.1 h2 i (k-1) (by simp; omega) (by simp; omega) hlt
        simp at hpw
        have e := (List.getElem?_eq_some_iff.1 hi).2
        rw [e] at hpw
        have := h1 d[k-1] (by rw [List.mem_iff_getElem?]; exact ⟨k-1, by rw [List.getElem?_take, if_pos (by omega), List.getElem?_eq_getElem]⟩)
        omega
      · have : i = k - 1 := by omega
        subst this
        have e := (List.getElem?_eq_some_iff.1 hi).2
        rw [e] at hlast; exact hlast
theorem validB_mono {d : List (Int × Int)} {k : Nat} (h : validB (d.take k) = false) : validB d = false := by
  rw [Bool.eq_false_iff] at h ⊢
  intro h2; apply h
  rw [validB_iff] at h2 ⊢
  exact ⟨fun p hp => h2.all p (List.mem_of_mem_take hp), h2.pw.sublist (List.take_sublist _ _)⟩

theorem c33 (w : World) (a : Option Addr) (l c : Nat) (d : List (Int × Int)) (h : Dom w a l d) (hl : d.length ≤ 9223372036854775807)
    (hsm : ∀ p ∈ d, p.2 ≤ 9223372036854775807 ∧ -9223372036854775808 ≤ p.2) :
    Calls Try.prog 33 #[.slice a l c] w fun en w' => ∃ p, en = .returned (.bool p) ∧ (p = validB d ∧ Ext w w') := by
  refine calls33 a l c _ w ?_
  refine ⟨fun i w' => ∃ k : Nat, i = k ∧ k ≤ d.length ∧ validB (d.take k) = true ∧ Ext w w', fun i _ => d.length - i.toNat, ⟨⟨0, rfl, by omega, rfl, Ext.refl w⟩, trivial⟩, ?_⟩
  rintro w4 i ⟨k, rfl, hk, hv, hB⟩
  obtain ⟨rfl, _⟩ := id h
  refine BoolK.mk (fun hlt => ?_) (fun hge => ?_)
  · have hlt : k < d.length := by simpa using hlt
    have hB6 := hB.trans (Ext.drew w4)
    have hvt := validB_take hlt
    rw [hv, Bool.true_and] at hvt
    refine ⟨by omega, ?_⟩
    obtain ⟨b, o, rfl, h0, h1⟩ := domAt h w4.drew hB6 hlt
    have hf : ∀ w', ¬ (0 ≤ d[k].1 ∧ d[k].1 ≤ d[k].2 ∧ d[k].2 ≤ 1000 ∧ (∀ p, d[k-1]? = some p → 0 < k → p.2 + 2 ≤ d[k].1)) → Ext w w' → false = validB d ∧ Ext w w' := fun w' hn hw => by
      rw [decide_eq_false hn] at hvt
      exact ⟨(validB_mono hvt).symm, hw⟩
    have hnext : (0 ≤ d[k].1 ∧ d[k].1 ≤ d[k].2 ∧ d[k].2 ≤ 1000 ∧ (∀ p, d[k-1]? = some p → 0 < k → p.2 + 2 ≤ d[k].1)) → validB (d.take (k+1)) = true := fun hn => by
      rw [hvt]; exact decide_eq_true hn
    simp only [AddrK, Int.toNat_natCast, add_mk, Int.toNat_zero, Int.toNat_one, Nat.zero_mul, Nat.one_mul, Nat.add_zero]
    refine ⟨by omega, _, h0, BoolK.mk (fun t => ?_) (fun t => ?_)⟩
    · simp at t; exact hf _ (by omega) hB6
    simp at t
    refine ⟨by omega, by omega, _, h0, by omega, by omega, _, h1, BoolK.mk (fun t2 => ?_) (fun t2 => ?_)⟩
    · simp at t2; exact hf _ (by omega) hB6
    simp at t2
    refine ⟨by omega, by omega, _, h1, BoolK.mk (fun t3 => ?_) (fun t3 => ?_)⟩
    · simp at t3; exact hf _ (by omega) hB6
    simp at t3
    have hstep : validB (d.take (k+1)) = true → (∃ k' : Nat, IntKind.wrap .i64 ((k:Int) + 1) = k' ∧ k' ≤ d.length ∧ validB (d.take k') = true ∧ Ext w w4.drew) ∧ d.length - (IntKind.wrap .i64 ((k:Int) + 1)).toNat < d.length - (k : Int).toNat := fun hv' => by
      rw [wrap_succ (by omega)]
      exact ⟨⟨k + 1, rfl, by omega, hv', hB6⟩, by simp; omega⟩
    refine BoolK.mk (fun t4 => ?_) (fun t4 => ?_)
    · simp at t4
      have hw1 : IntKind.wrap .i64 ((k : Int) - 1) = ((k - 1 : Nat) : Int) := by rw [wrap_id] <;> omega
      obtain ⟨b', o', ha', _, h1'⟩ := domAt h w4.drew hB6 (show k - 1 < d.length by omega)
      simp at ha'; obtain ⟨rfl, rfl⟩ := ha'
      rw [hw1]
      simp only [Int.toNat_natCast]
      refine ⟨by omega, by omega, _, h0, by omega, by omega, _, h1', ?_⟩
      have hprev : d[k-1]? = some d[k-1] := List.getElem?_eq_getElem _
      have hall : d[k-1].2 ≤ 1000 := by
        have := ((validB_iff _).1 hv).all d[k-1] (by rw [List.mem_iff_getElem?]; exact ⟨k-1, by rw [List.getElem?_take, if_pos (by omega), hprev]⟩)
        omega
      have hsm' := hsm d[k-1] (List.getElem_mem _)
      rw [wrap_id (by omega) (by omega)]
      refine BoolK.mk (fun t5 => ?_) (fun t5 => ?_)
      · simp at t5
        exact hf _ (fun hn => by have := hn.2.2.2 _ hprev (by omega); omega) hB6
      · simp at t5
        exact hstep (hnext ⟨by omega, by omega, by omega, fun p hp _ => by rw [hprev] at hp; cases hp; omega⟩)
    · simp at t4
      exact hstep (hnext ⟨by omega, by omega, by omega, fun p hp h0 => by omega⟩)
  · have : k = d.length := by simp at hge; omega
    subst this
    rw [List.take_length] at hv
    exact ⟨hv.symm, hB⟩

theorem inD_take {d : List (Int × Int)} {k : Nat} (hk : k < d.length) (v : Int) : inD (d.take (k + 1)) v = (inD (d.take k) v || inR v d[k]) := by
  have hs : d.take (k + 1) = d.take k ++ [d[k]] := by rw [List.take_add_one, List.getElem?_eq_getElem hk]; rfl
  rw [hs, inD_append, inD_one]

theorem c81 (w : World) (a : Option Addr) (l c : Nat) (d : List (Int × Int)) (h : Dom w a l d) (hv : VD d) :
    Calls Try.prog 81 #[.slice a l c] w fun en w' => ∃ o, en = .returned (.pointer o) ∧ ∃ b, o = some ⟨b, 0, none⟩ ∧ w.heap.size ≤ b ∧ SetAt w' b (fun v => inD d v) ∧ Ext w w' := by
  refine calls81 a l c _ w ?_
  refine zero72.alloc fun b2 w3 hb2 hs3 hx3 => ?_
  have hlen := hv.len
  refine ⟨fun i w' => ∃ k : Nat, i = k ∧ k ≤ d.length ∧ SetAt w' b2 (fun v => inD (d.take k) v) ∧ Ext w w', fun i _ => d.length - i.toNat, ⟨⟨0, rfl, by omega, hs3, hx3⟩, trivial⟩, ?_⟩
  rintro w4 i ⟨k, rfl, hk, hs, hB⟩
  obtain ⟨rfl, _⟩ := id h
  refine BoolK.mk (fun hlt => ?_) (fun hge => ?_)
  · have hlt : k < d.length := by simpa using hlt
    refine ⟨by omega, ?_⟩
    obtain ⟨b, o, rfl, h0, h1⟩ := domAt h w4 hB hlt
    simp only [AddrK, Int.toNat_natCast, add_mk, Nat.add_zero]
    refine ⟨_, h0, _, h1, local2 fun b' w5 hb' hbk hx => ?_⟩
    have c0 := hbk.cell 0
    have c1 := hbk.cell 1
    simp at c0 c1
    simp only [add_mk, Int.toNat_zero, Int.toNat_one, Nat.zero_mul, Nat.one_mul, Nat.add_zero, Nat.zero_add]
    refine ⟨by omega, _, c0, ?_⟩
    have hr := hv.all d[k] (List.getElem_mem _)
    have hb4 := hs.lt
    refine ⟨fun i w' => d[k].1 ≤ i ∧ i ≤ d[k].2 + 1 ∧ SetAt w' b2 (fun v => inD (d.take k) v || (decide (d[k].1 ≤ v) && decide ((v : Int) < i))) ∧ But b2 w5 w', fun i _ => (d[k].2 + 1 - i).toNat,
      ⟨⟨by omega, by omega, (hs.ext hx).congr fun i _ => ?_, ⟨rfl, rfl, rfl, rfl, fun _ _ => rfl⟩⟩, trivial⟩, ?_⟩
    · have : (decide (d[k].1 ≤ (i : Int)) && decide ((i : Int) < d[k].1)) = false := by simp
      rw [this, Bool.or_false]
    rintro w6 x ⟨hx1, hx2, hs6, hbut⟩
    refine ⟨by omega, _, hbut.cell c1 (by show b' ≠ b2; omega), BoolK.mk (fun t => ?_) (fun t => ?_)⟩
    · simp at t
      refine ⟨by omega, ?_⟩
      simp only [Nat.mul_one]
      rw [wrap_id (by omega) (by omega)]
      refine hs6.set (i := x.toNat) (g := fun v => inD (d.take k) v || (decide (d[k].1 ≤ v) && decide ((v : Int) < x + 1))) (by omega) (fun j => ?_) fun w7 hs7 hbut7 => ?_
      · by_cases hj : j = x.toNat
        · subst hj; rw [if_pos rfl, decide_eq_true (show d[k].1 ≤ (x.toNat : Int) by omega), decide_eq_true (show (x.toNat : Int) < x + 1 by omega)]; simp
        · rw [if_neg hj]; congr 2; rw [decide_eq_decide]; omega
      · exact ⟨⟨by omega, by omega, hs7, hbut.trans hbut7⟩, by omega⟩
    · simp at t
      rw [wrap_succ (by omega)]
      refine ⟨⟨k + 1, rfl, by omega, hs6.congr fun i _ => ?_, hbut.below (hB.trans hx) (by omega)⟩, by simp; omega⟩
      rw [inD_take hlt]; congr 1; simp only [inR]; congr 1; rw [decide_eq_decide]; omega
  · have : k = d.length := by simp at hge; omega
    subst this
    rw [List.take_length] at hs
    exact ⟨b2, rfl, by omega, hs, hB⟩

/-! ### close and From -/
theorem slt38 : SlT Try.prog 38 55 2 16 := slOk.ok (by kernel_rfl : slOk Try.prog 38 55 2 16 = true)
theorem slt22 : SlT Try.prog 22 3 1 8 := slOk.ok (by kernel_rfl : slOk Try.prog 22 3 1 8 = true)
theorem slt25 : SlT Try.prog 25 38 1 24 := slOk.ok (by kernel_rfl : slOk Try.prog 25 38 1 24 = true)
theorem rngs_len (f : Nat → Bool) (n : Nat) (hn : n ≤ 1001) : (rngs f n).length ≤ 1001 := (rngs_ok f n hn).1.len
end Go.Proofs.Ytggfnakhmjkoeaa

namespace Go.Proofs.Ytggfnakhmjkoeaa
open Go Go.V Go.Proofs
open Go.RowKit (Below)

theorem own_last {base : Nat} {e : TypeId} {w : World} {a : Option Addr} {l c : Nat} {xs : List (Int × Int)} {p : Int × Int} (h : OwnR base e 2 eP w a l c xs) (hp : xs.getLast? = some p) :
    ∃ g, a = some ⟨g, 0, none⟩ ∧ base ≤ g ∧ g < w.heap.size ∧ 0 < l ∧ l = xs.length ∧ w.cell? ⟨g, (l - 1) * 2 + 1, none⟩ = some (.int .i64 p.2) ∧
      ∀ (v : Int) (F : World → Prop), (∀ w', OwnR base e 2 eP w' a l c (xs.dropLast ++ [(p.1, v)]) → But g w w' → F w') → SetK w ⟨g, (l - 1) * 2 + 1, none⟩ (.int .i64 v) F := by
  have hs := split_last hp
  have hlen : xs.length = xs.dropLast.length + 1 := by conv => lhs; rw [hs]
                                                       simp
  have hi : xs[xs.length - 1]? = some p := by rw [← List.getLast?_eq_getElem?]; exact hp
  obtain ⟨g, rfl, hg1, hg2, hc⟩ := h.cellAt eP_len hi
  have hl := h.1
  refine ⟨g, rfl, hg1, hg2, by omega, hl, ?_, fun v F k => ?_⟩
  · rw [hl, hc 1 (by omega)]; rfl
  · refine OwnR.set (ys := xs.dropLast ++ [(p.1, v)]) h _ _ (by omega) (by simp; omega) ?_ k
    have e1 : (xs.flatMap eP).length = xs.length * 2 := enc_len eP_len xs
    have e2 : (xs.dropLast.flatMap eP).length = xs.dropLast.length * 2 := enc_len eP_len _
    have e3 : (l - 1) * 2 + 1 = (xs.dropLast.flatMap eP).length + 1 := by rw [e2]; omega
    conv => lhs; arg 1; rw [hs]
    rw [e3, List.flatMap_append, List.flatMap_append, List.set_append_right _ _ (by omega), Nat.add_sub_cancel_left]
    rfl

theorem c65 (w : World) (b : Nat) (f : Nat → Bool) (h : SetAt w b f) :
    Calls Try.prog 65 #[.pointer (some ⟨b, 0, none⟩)] w fun en w' => ∃ a l c, en = .returned (.slice a l c) ∧ OwnR w.heap.size 55 2 eP w' a l c (rngs f 1001) ∧ Ext w w' := by
  refine calls65 _ _ w ?_
  refine ⟨fun a l c i w' => ∃ k : Nat, i = k ∧ k ≤ 1001 ∧ OwnR w.heap.size 55 2 eP w' a l c (rngs f k) ∧ Ext w w', fun _ _ _ i _ => 1001 - i.toNat, ⟨⟨0, rfl, by omega, OwnR.nil _ _ _ _ _, Ext.refl w⟩, trivial⟩, ?_⟩
  rintro w4 a5 l5 c5 i ⟨k, rfl, hk, ho, hB⟩
  have hlen := rngs_len f k hk
  have hl5 := ho.1
  refine BoolK.mk (fun hlt => ?_) (fun hge => ?_)
  · simp only [decide_eq_true_eq] at hlt
    simp only [AddrK, Int.toNat_natCast, add_mk, Int.toNat_one, Nat.mul_one, Nat.zero_add]
    rw [wrap_succ (show k < 9223372036854775807 by omega)]
    refine ⟨by omega, _, (h.ext hB).cell (by omega), BoolK.mk (fun t => ?_) (fun t => ?_)⟩
    · simp at t
      exact ⟨⟨k + 1, rfl, by omega, by rw [rngs, t]; exact ho, hB⟩, by simp; omega⟩
    simp at t
    refine ⟨fun p w10 => w10 = w4 ∧ p = decide (∃ q, (rngs f k).getLast? = some q ∧ q.2 = (k : Int) - 1), ?_, ?_⟩
    · rintro w10 p ⟨rfl, rfl⟩
      refine BoolK.mk (fun tj => ?_) (fun tj => ?_)
      · simp only [decide_eq_true_eq] at tj
        obtain ⟨q, hq, hq2⟩ := tj
        obtain ⟨g, rfl, hg1, hg2, hl0, _, hcell, hset⟩ := own_last ho hq
        have hw1 : IntKind.wrap .i64 ((l5 : Int) - 1) = ((l5 - 1 : Nat) : Int) := by rw [wrap_id] <;> omega
        rw [hw1]
        simp only [Int.toNat_natCast, add_mk, Nat.zero_add]
        refine ⟨by omega, by omega, hset _ _ fun w' ho' hbut => ⟨⟨k + 1, rfl, by omega, ?_, hbut.below hB hg1⟩, by simp; omega⟩⟩
        rw [rngs, if_pos t, rstep, hq]; simp only; rw [if_pos hq2]; exact ho'
      · simp only [decide_eq_false_iff_not] at tj
        refine ho.push ((k : Int), (k : Int)) slt38 hB.size eP_len eP_one (by omega) rfl fun a' c' w' ho' hg _ => ⟨⟨k + 1, rfl, by omega, ?_, ?_⟩, by simp; omega⟩
        · have he : rngs f (k + 1) = rngs f k ++ [((k : Int), (k : Int))] := by
            rw [rngs, if_pos t, rstep]
            cases hq : (rngs f k).getLast? with
            | none => rw [List.getLast?_eq_none_iff.1 hq]; rfl
            | some q => simp only; rw [if_neg (fun e => tj ⟨q, hq, e⟩)]
          rw [he]
          have : l5 + 0 = l5 := rfl
          exact ho'
        · exact Below.trans hB (ho.below hB.size hg)
    · refine BoolK.mk (fun t2 => ?_) (fun t2 => ?_)
      · simp only [decide_eq_true_eq] at t2
        have hne : rngs f k ≠ [] := fun e => by rw [e] at hl5; simp at hl5; omega
        obtain ⟨g, rfl, hg1, hg2, hl0, _, hcell, hset⟩ := own_last ho (List.getLast?_eq_some_getLast hne)
        have hw1 : IntKind.wrap .i64 ((l5 : Int) - 1) = ((l5 - 1 : Nat) : Int) := by rw [wrap_id] <;> omega
        rw [hw1, wrap_id (by omega) (by omega)]
        simp only [Int.toNat_natCast, add_mk, Nat.zero_add]
        refine ⟨by omega, by omega, _, hcell, trivial, ?_⟩
        rw [Bool.eq_iff_iff, beq_iff_eq, decide_eq_true_eq, List.getLast?_eq_some_getLast hne]
        simp
      · simp only [decide_eq_false_iff_not] at t2
        refine ⟨rfl, ?_⟩
        have he : rngs f k = [] := by apply List.length_eq_zero_iff.1; omega
        rw [he]; simp
  · have : k = 1001 := by simp at hge; omega
    subst this
    exact ⟨ho, hB⟩

theorem c66 (w : World) (r : Array Value) (f : Nat → Bool) (h : SetV r f) :
    Calls Try.prog 66 #[.agg r] w fun en w' => ∃ a l c, en = .returned (.slice a l c) ∧ OwnR w.heap.size 55 2 eP w' a l c (rngs f 1001) ∧ Ext w w' := by
  refine calls66 _ _ w ?_
  refine h.alloc fun b w3 hb3 h3 hx3 => ?_
  have hsz := hx3.size
  have hb3' := h3.lt
  refine ⟨fun a l c i w' => ∃ k : Nat, i = k ∧ k ≤ 1001 ∧ OwnR w3.heap.size 55 2 eP w' a l c (rngs f k) ∧ Ext w3 w', fun _ _ _ i _ => 1001 - i.toNat, ⟨⟨0, rfl, by omega, OwnR.nil _ _ _ _ _, Ext.refl w3⟩, trivial⟩, ?_⟩
  rintro w4 a5 l5 c5 i ⟨k, rfl, hk, ho, hB⟩
  have hlen := rngs_len f k hk
  have hl5 := ho.1
  refine BoolK.mk (fun hlt => ?_) (fun hge => ?_)
  · simp only [decide_eq_true_eq] at hlt
    simp only [AddrK, Int.toNat_natCast, add_mk, Int.toNat_one, Nat.mul_one, Nat.zero_add]
    rw [wrap_succ (show k < 9223372036854775807 by omega)]
    refine ⟨by omega, _, (h3.ext hB).cell (by omega), BoolK.mk (fun t => ?_) (fun t => ?_)⟩
    · simp at t
      exact ⟨⟨k + 1, rfl, by omega, by rw [rngs, t]; exact ho, hB⟩, by simp; omega⟩
    simp at t
    refine ⟨fun p w10 => w10 = w4 ∧ p = decide (∃ q, (rngs f k).getLast? = some q ∧ q.2 = (k : Int) - 1), ?_, ?_⟩
    · rintro w10 p ⟨rfl, rfl⟩
      refine BoolK.mk (fun tj => ?_) (fun tj => ?_)
      · simp only [decide_eq_true_eq] at tj
        obtain ⟨q, hq, hq2⟩ := tj
        obtain ⟨g, rfl, hg1, hg2, hl0, _, hcell, hset⟩ := own_last ho hq
        have hw1 : IntKind.wrap .i64 ((l5 : Int) - 1) = ((l5 - 1 : Nat) : Int) := by rw [wrap_id] <;> omega
        rw [hw1]
        simp only [Int.toNat_natCast, add_mk, Nat.zero_add]
        refine ⟨by omega, by omega, hset _ _ fun w' ho' hbut => ⟨⟨k + 1, rfl, by omega, ?_, hbut.below hB hg1⟩, by simp; omega⟩⟩
        rw [rngs, if_pos t, rstep, hq]; simp only; rw [if_pos hq2]; exact ho'
      · simp only [decide_eq_false_iff_not] at tj
        refine ho.push ((k : Int), (k : Int)) slt38 hB.size eP_len eP_one (by omega) rfl fun a' c' w' ho' hg _ => ⟨⟨k + 1, rfl, by omega, ?_, ?_⟩, by simp; omega⟩
        · have he : rngs f (k + 1) = rngs f k ++ [((k : Int), (k : Int))] := by
            rw [rngs, if_pos t, rstep]
            cases hq : (rngs f k).getLast? with
            | none => rw [List.getLast?_eq_none_iff.1 hq]; rfl
            | some q => simp only; rw [if_neg (fun e => tj ⟨q, hq, e⟩)]
          rw [he]
          exact ho'
        · exact Below.trans hB (ho.below hB.size hg)
    · refine BoolK.mk (fun t2 => ?_) (fun t2 => ?_)
      · simp only [decide_eq_true_eq] at t2
        have hne : rngs f k ≠ [] := fun e => by rw [e] at hl5; simp at hl5; omega
        obtain ⟨g, rfl, hg1, hg2, hl0, _, hcell, hset⟩ := own_last ho (List.getLast?_eq_some_getLast hne)
        have hw1 : IntKind.wrap .i64 ((l5 : Int) - 1) = ((l5 - 1 : Nat) : Int) := by rw [wrap_id] <;> omega
        rw [hw1, wrap_id (by omega) (by omega)]
        simp only [Int.toNat_natCast, add_mk, Nat.zero_add]
        refine ⟨by omega, by omega, _, hcell, trivial, ?_⟩
        rw [Bool.eq_iff_iff, beq_iff_eq, decide_eq_true_eq, List.getLast?_eq_some_getLast hne]
        simp
      · simp only [decide_eq_false_iff_not] at t2
        refine ⟨rfl, ?_⟩
        have he : rngs f k = [] := by apply List.length_eq_zero_iff.1; omega
        rw [he]; simp
  · have : k = 1001 := by simp at hge; omega
    subst this
    exact ⟨ho.mono hsz, hx3.trans hB⟩

theorem vals_take {d : List (Int × Int)} {k : Nat} (hk : k < d.length) : vals (d.take (k + 1)) = vals (d.take k) ++ valsR d[k] := by
  have hs : d.take (k + 1) = d.take k ++ [d[k]] := by rw [List.take_add_one, List.getElem?_eq_getElem hk]; rfl
  rw [hs]; simp only [vals, List.flatMap_append, List.flatMap_cons, List.flatMap_nil, List.append_nil]
theorem valsR_take {p : Int × Int} {j : Nat} : (valsR p).take (j + 1) = (valsR p).take j ++ (if p.1 + j ≤ p.2 then [p.1 + (j : Int)] else []) := by
  rw [List.take_add_one]
  congr 1
  split
  · rw [valsR, List.getElem?_map, List.getElem?_range (by omega)]; rfl
  · rw [List.getElem?_eq_none (by simp [valsR]; omega)]; rfl
theorem VD.take {d : List (Int × Int)} (h : VD d) (k : Nat) : VD (d.take k) := ⟨fun p hp => h.all p (List.mem_of_mem_take hp), h.pw.sublist (List.take_sublist _ _)⟩

theorem c36 (w : World) (a : Option Addr) (l c : Nat) (d : List (Int × Int)) (h : Dom w a l d) (hl : d.length ≤ 9223372036854775807)
    (hsm : ∀ p ∈ d, p.2 ≤ 9223372036854775807 ∧ -9223372036854775808 ≤ p.2) :
    Calls Try.prog 36 #[.slice a l c] w fun en w' => ∃ a' l' c', en = .returned (.slice a' l' c') ∧ OwnR w.heap.size 3 1 eI w' a' l' c' (if validB d then vals d else []) ∧ Ext w w' := by
  refine calls36 a l c _ w ?_
  refine (c33 w a l c d h hl hsm).mono ?_
  rintro en w3 ⟨p, rfl, rfl, hx3⟩
  refine ⟨_, rfl, BoolK.mk (fun t => ?_) (fun t => ?_)⟩
  · simp at t; rw [t]; exact ⟨OwnR.nil _ _ _ _ _, hx3⟩
  simp at t; rw [t]
  have hv := (validB_iff d).1 t
  have hlen := hv.len
  rw [if_pos rfl]
  refine ⟨fun a l c i w' => ∃ k : Nat, i = k ∧ k ≤ d.length ∧ OwnR w.heap.size 3 1 eI w' a l c (vals (d.take k)) ∧ Ext w w', fun _ _ _ i _ => d.length - i.toNat, ⟨⟨0, rfl, by omega, OwnR.nil _ _ _ _ _, hx3⟩, trivial⟩, ?_⟩
  rintro w4 a5 l5 c5 i ⟨k, rfl, hk, ho, hB⟩
  obtain ⟨rfl, _⟩ := id h
  refine BoolK.mk (fun hlt => ?_) (fun hge => ?_)
  · have hlt : k < d.length := by simpa using hlt
    obtain ⟨b, o, rfl, h0, h1⟩ := domAt h w4 hB hlt
    have hr := hv.all d[k] (List.getElem_mem _)
    simp only [AddrK, Int.toNat_natCast, add_mk, Int.toNat_zero, Int.toNat_one, Nat.zero_mul, Nat.one_mul, Nat.add_zero]
    refine ⟨by omega, by omega, _, h0, ?_⟩
    refine ⟨fun a l c i w' => ∃ j : Nat, i = d[k].1 + j ∧ i ≤ d[k].2 + 1 ∧ OwnR w.heap.size 3 1 eI w' a l c (vals (d.take k) ++ (valsR d[k]).take j) ∧ Ext w w', fun _ _ _ i _ => (d[k].2 + 1 - i).toNat,
      ⟨⟨0, by omega, by omega, by simpa using ho, hB⟩, trivial⟩, ?_⟩
    rintro w6 a6 l6 c6 x ⟨j, rfl, hj, ho6, hB6⟩
    obtain ⟨b', o', ha', _, h1'⟩ := domAt h w6 hB6 hlt
    simp at ha'; obtain ⟨rfl, rfl⟩ := ha'
    refine ⟨by omega, by omega, _, h1', BoolK.mk (fun t2 => ?_) (fun t2 => ?_)⟩
    · simp at t2
      have hlen6 : (vals (d.take k) ++ (valsR d[k]).take j).length ≤ 1001 := by
        have h5 := (hv.take (k+1)).vals_len
        rw [vals_take hlt] at h5
        simp only [List.length_append, List.length_take] at h5 ⊢; omega
      rw [wrap_id (by omega) (by omega)]
      refine ho6.push (d[k].1 + (j : Int)) slt22 hB6.size eI_len eI_one (by omega) rfl fun a' c' w' ho' hg _ => ⟨⟨j + 1, by omega, by omega, ?_, Below.trans hB6 (ho6.below hB6.size hg)⟩, by dsimp only; omega⟩
      rw [valsR_take, if_pos t2, ← List.append_assoc]
      exact ho'
    · simp at t2
      rw [wrap_succ (by omega)]
      refine ⟨⟨k + 1, rfl, by omega, ?_, hB6⟩, by simp; omega⟩
      rw [vals_take hlt]
      have e1 : (valsR d[k]).take j = valsR d[k] := List.take_of_length_le (by simp only [valsR, List.length_map, List.length_range]; omega)
      rw [e1] at ho6; exact ho6
  · have : k = d.length := by simp at hge; omega
    subst this
    rw [List.take_length] at ho
    exact ⟨ho, hB⟩

theorem c83 (w : World) (a : Option Addr) (l c : Nat) (d : List (Int × Int)) (h : Dom w a l d) (hv : VD d) :
    Calls Try.prog 83 #[.slice a l c] w fun en w' => ∃ r, en = .returned (.agg r) ∧ SetV r (fun v => inD d v) ∧ Ext w w' := by
  have hlen := hv.len
  refine calls83 a l c _ w ?_
  refine zero71.alloc fun b2 w3 hb2 hs2 hx3 => zero71.alloc fun b4 w5 hb4 hs4 hx5 => ?_
  have hx := hx3.trans hx5
  refine (c36 w5 a l c d (h.ext RPair.mono hx) (by omega) (fun p hp => by have := hv.all p hp; omega)).mono ?_
  rintro en w7 ⟨a6, l6, c6, rfl, ho, hx7⟩
  rw [(validB_iff d).2 hv, if_pos rfl] at ho
  have hI := ho.ints
  have hl6 := hI.1
  have hvl := hv.vals_len
  have hlt2 := hs2.lt
  have hlt4 := hs4.lt
  have hsz5 := hx5.size
  refine ⟨a6, l6, c6, rfl, ?_⟩
  refine ⟨fun i w' => ∃ k : Nat, i = k ∧ k ≤ l6 ∧ SetAt w' b4 (fun v => decide ((v : Int) ∈ (vals d).take k)) ∧ But b4 w7 w', fun i _ => l6 - i.toNat,
    ⟨⟨0, rfl, by omega, by simpa using hs4.ext hx7, ⟨rfl, rfl, rfl, rfl, fun _ _ => rfl⟩⟩, trivial⟩, ?_⟩
  rintro w11 i ⟨k, rfl, hk, hs, hbut⟩
  refine BoolK.mk (fun hlt => ?_) (fun hge => ?_)
  · have hlt : k < (vals d).length := by simp at hlt; omega
    obtain ⟨b, o, rfl, h0⟩ := intAt hI w7 (Ext.refl _) hlt
    have hbb : b ≠ b4 := by
      have := (ho.lt b rfl).1
      omega
    have hbound := hv.bound ((mem_vals d _).1 (List.getElem_mem hlt))
    simp only [AddrK, Int.toNat_natCast, add_mk, Nat.mul_one, Nat.zero_add]
    refine ⟨by omega, _, hbut.cell h0 hbb, by omega, ?_⟩
    rw [wrap_succ (by omega)]
    refine hs.set (i := ((vals d)[k]).toNat) (g := fun v => decide ((v : Int) ∈ (vals d).take (k + 1))) (by omega) (fun j => ?_) fun w' hs' hb' => ⟨⟨k + 1, rfl, by omega, hs', hbut.trans hb'⟩, by simp; omega⟩
    have e1 : (vals d).take (k + 1) = (vals d).take k ++ [(vals d)[k]] := by rw [List.take_add_one, List.getElem?_eq_getElem hlt]; rfl
    rw [e1]
    by_cases hj : j = ((vals d)[k]).toNat
    · rw [if_pos hj]; simp only [decide_eq_true_eq]; rw [List.mem_append]; right; rw [List.mem_singleton]; omega
    · rw [if_neg hj, decide_eq_decide, List.mem_append, List.mem_singleton]
      exact ⟨fun hh => hh.elim id (fun e => by omega), .inl⟩
  · have : k = l6 := by simp at hge; omega
    subst this
    rw [hl6, List.take_length] at hs
    have hs' : SetAt w11 b4 (fun v => inD d v) := hs.congr fun i _ => by
      rw [Bool.eq_iff_iff, decide_eq_true_eq, mem_vals]
    obtain ⟨r, hr, hrv⟩ := hs'.row
    refine ⟨r, hr, ?_⟩
    have hs2' : SetAt w11 b2 (fun _ => false) := by
      obtain ⟨cs, t, e1, e2⟩ := (hs2.ext hx5).ext hx7
      exact ⟨cs, t, hbut.blk e1 (by omega), e2⟩
    refine hrv.store hs2' fun w17 h17 hbut17 => ?_
    obtain ⟨r', hr', hrv'⟩ := h17.row
    exact ⟨r', hr', hrv', hbut17.below (hbut.below (hx.trans hx7) (by omega)) (by omega)⟩
end Go.Proofs.Ytggfnakhmjkoeaa

namespace Go.V
open Go.RowKit (Below)

theorem DrewK.mk {w : World} {F : World → Prop} (h : ∀ w', Ext w w' → F w') : DrewK w F := h _ (Ext.drew w)

theorem run_append_none {P : Program} (w : World) {t ty e : TypeId} {sz bytes : Nat} (H : SlT P t e sz bytes) (c : Nat) :
    Sem.run P (Builtin.append_ #[t, t] ty #[.slice none 0 0, .slice none 0 c]) w = .ok (.slice none 0 0) w := by
  obtain ⟨i, z, hi, _⟩ := H.info
  simp [Builtin.append_, run_underlying H.under, sizeOf, typeInfo, hi, Builtin.lenOf, Builtin.firstCells]

/-- append(nil, d...) -/
theorem copyRows {α : Type} {P : Program} {t ty e : TypeId} {sz bytes : Nat} {enc : α → List Value} {R : World → Cells → α → Prop} {w : World} {a : Option Addr} {l c : Nat} {xs : List α} (H : SlT P t e sz bytes) (h : Rows sz R w a l xs)
    (he : ∀ x, (enc x).length = sz) (h1 : ∀ x u, u ∈ enc x → u.oneCell' = true) (hR : ∀ f x, R w f x → ∀ j, j < sz → f j = (enc x)[j]?) (hlen : xs.length * bytes ≤ 140737488355328) :
    ∃ a' c' w', Sem.run P (Builtin.append_ #[t, t] ty #[.slice none 0 0, .slice a l c]) w = .ok (.slice a' l c') w' ∧ OwnR w.heap.size e sz enc w' a' l c' xs ∧ Ext w w' := by
  obtain ⟨rfl, hx⟩ := h
  cases a with
  | none =>
    rcases hx with rfl | ⟨b, o, ha, _⟩
    · exact ⟨none, 0, w, run_append_none w H c, OwnR.nil _ _ _ _ _, Ext.refl w⟩
    · cases ha
  | some p =>
    have hc : ∀ j u, (xs.flatMap enc)[j]? = some u → w.cell? (p.add j) = some u := by
      intro j u hu
      rcases hx with rfl | ⟨b, o, ha, hx⟩
      · simp at hu
      · simp at ha; subst ha
        rw [add_mk]
        have hj : j < xs.length * sz := by rw [← enc_len he]; exact (List.getElem?_eq_some_iff.1 hu).1
        have hi : j / sz < xs.length := Nat.div_lt_of_lt_mul (by rw [Nat.mul_comm]; exact hj)
        have hm : j % sz < sz := Nat.mod_lt _ H.pos
        have hjj : j / sz * sz + j % sz = j := Nat.div_add_mod' j sz
        have := hR _ _ (hx (j / sz) _ (List.getElem?_eq_getElem hi)) (j % sz) hm
        rw [Nat.add_assoc, hjj] at this
        rw [this, ← enc_get he (List.getElem?_eq_getElem hi) hm, hjj]; exact hu
    obtain ⟨a', c', w', hr, ho, hg, _⟩ := OwnR.appendN (ty := ty) (xs := []) (ys := xs) (a := none) (l := 0) (c := 0) H (OwnR.nil w.heap.size e sz enc w) (Nat.le_refl _) he h1 p c hc (by simpa using hlen)
    simp only [List.length_nil, Nat.zero_add, List.nil_append] at hr ho
    exact ⟨a', c', w', hr, ho, Ext.grown hg rfl⟩

/-- A row of slices, the function's own, each slice with its list; no slice lies in the row's own block. -/
def RowsO {β : Type} (base : Nat) (e : TypeId) (sz : Nat) (R : World → Cells → β → Prop) (w : World) (a : Option Addr) (l c : Nat) (ds : List (List β)) : Prop :=
  ∃ S : List (Option Addr × Nat × Nat), S.length = ds.length ∧ OwnR base e 1 eS w a l c S ∧
    ∀ (i : Nat) (s : Option Addr × Nat × Nat) (d : List β), S[i]? = some s → ds[i]? = some d → Rows sz R w s.1 s.2.1 d ∧ (d = [] ∨ ∀ p, s.1 = some p → some p.block ≠ (Value.slice a l c).ownBlock)

theorem RowsO.nil {β : Type} (base : Nat) (e : TypeId) (sz : Nat) (R : World → Cells → β → Prop) (w : World) : RowsO base e sz R w none 0 0 ([] : List (List β)) :=
  ⟨[], rfl, OwnR.nil _ _ _ _ _, by simp⟩
theorem RowsO.len {β : Type} {base : Nat} {e : TypeId} {sz : Nat} {R : World → Cells → β → Prop} {w : World} {a : Option Addr} {l c : Nat} {ds : List (List β)} (h : RowsO base e sz R w a l c ds) : l = ds.length := by
  obtain ⟨S, h1, h2, _⟩ := h; rw [h2.1, h1]
theorem RowsO.ext {β : Type} {base : Nat} {e : TypeId} {sz : Nat} {R : World → Cells → β → Prop} (hR : Mono R) {w w' : World} {a : Option Addr} {l c : Nat} {ds : List (List β)} (h : RowsO base e sz R w a l c ds) (k : Ext w w') : RowsO base e sz R w' a l c ds := by
  obtain ⟨S, h1, h2, h3⟩ := h
  exact ⟨S, h1, h2.ext k, fun i s d hs hd => ⟨(h3 i s d hs hd).1.ext hR k, (h3 i s d hs hd).2⟩⟩
/-- seen as a list of lists -/
theorem RowsO.doms {β : Type} {base : Nat} {e : TypeId} {sz : Nat} {R : World → Cells → β → Prop} {w : World} {a : Option Addr} {l c : Nat} {ds : List (List β)} (h : RowsO base e sz R w a l c ds) : Rows 1 (RSl sz R) w a l ds := by
  obtain ⟨S, h1, h2, h3⟩ := h
  refine h2.rows eS_len (RSl sz R) h1.symm fun f i s d hs hd hf => ⟨s.1, s.2.1, s.2.2, ?_, (h3 i s d hs hd).1⟩
  rw [hf 0 (by omega)]; rfl
/-- an element: where it lies -/
theorem RowsO.get {β : Type} {base : Nat} {e : TypeId} {sz : Nat} {R : World → Cells → β → Prop} {w : World} {a : Option Addr} {l c : Nat} {ds : List (List β)} (h : RowsO base e sz R w a l c ds) {i : Nat} (hi : i < ds.length) :
    ∃ (g : Nat) (s : Option Addr × Nat × Nat), a = some ⟨g, 0, none⟩ ∧ base ≤ g ∧ g < w.heap.size ∧ w.cell? ⟨g, i, none⟩ = some (.slice s.1 s.2.1 s.2.2) ∧ Rows sz R w s.1 s.2.1 ds[i] := by
  obtain ⟨S, h1, h2, h3⟩ := h
  have hs : S[i]? = some S[i] := List.getElem?_eq_getElem (by omega)
  obtain ⟨g, ha, hb, hg, hc⟩ := h2.cellAt eS_len hs
  refine ⟨g, S[i], ha, hb, hg, ?_, (h3 i _ _ hs (List.getElem?_eq_getElem hi)).1⟩
  have := hc 0 (by omega)
  rw [Nat.mul_one, Nat.add_zero] at this
  rw [this]; rfl
theorem Rows.block {α : Type} {sz : Nat} {R : World → Cells → α → Prop} (hR : ∀ w w' f x, R w f x → R w' f x) {w w' : World} {a : Option Addr} {l : Nat} {xs : List α} (h : Rows sz R w a l xs)
    (k : xs = [] ∨ ∀ p, a = some p → w'.heap[p.block]? = w.heap[p.block]?) : Rows sz R w' a l xs := by
  obtain ⟨h1, h2⟩ := h
  refine ⟨h1, ?_⟩
  rcases k with k | k
  · exact .inl k
  · refine h2.imp id ?_
    rintro ⟨b, o, rfl, hx⟩
    refine ⟨b, o, rfl, fun i x hi => ?_⟩
    have e1 : (fun j => w'.cell? ⟨b, o + i * sz + j, none⟩) = fun j => w.cell? ⟨b, o + i * sz + j, none⟩ := by
      funext j; exact World.cell?_of_block (k ⟨b, o, none⟩ rfl)
    rw [e1]; exact hR w w' _ _ (hx i x hi)
theorem RPair.leaf : ∀ (w w' : World) f x, RPair w f x → RPair w' f x := fun _ _ _ _ h => h
theorem RInt.leaf : ∀ (w w' : World) f x, RInt w f x → RInt w' f x := fun _ _ _ _ h => h
/-- an element is set to another list -/
theorem RowsO.set {β : Type} {base : Nat} {e : TypeId} {sz : Nat} {R : World → Cells → β → Prop} (hR : ∀ w w' f x, R w f x → R w' f x) {w : World} {g l c : Nat} {ds : List (List β)}
    (h : RowsO base e sz R w (some ⟨g, 0, none⟩) l c ds) {i : Nat} (hi : i < ds.length) {a' : Option Addr} {l' c' : Nat} {d : List β} (hd : Rows sz R w a' l' d) (hne : d = [] ∨ ∀ p, a' = some p → p.block ≠ g) {F : World → Prop}
    (k : ∀ w', RowsO base e sz R w' (some ⟨g, 0, none⟩) l c (ds.set i d) → But g w w' → F w') : SetK w ⟨g, i, none⟩ (.slice a' l' c') F := by
  obtain ⟨S, h1, h2, h3⟩ := h
  refine OwnR.set (ys := S.set i (a', l', c')) h2 i _ (by omega) (by simp) ?_ fun w' ho hbut => k w' ⟨S.set i (a', l', c'), by simp [h1], ho, fun j s d' hs hd' => ?_⟩ hbut
  · have e1 : ∀ X : List (Option Addr × Nat × Nat), X.flatMap eS = X.map fun s => Value.slice s.1 s.2.1 s.2.2 := by
      intro X; induction X with
      | nil => rfl
      | cons x xs ih => rw [List.flatMap_cons, ih]; rfl
    rw [e1, e1, List.map_set]
  · rw [List.getElem?_set] at hs hd'
    by_cases hij : i = j
    · subst hij
      rw [if_pos rfl, if_pos (by omega)] at hs
      rw [if_pos rfl, if_pos (by omega)] at hd'
      cases hs; cases hd'
      refine ⟨hd.block hR (hne.imp id fun hh p hp => hbut.block _ (hh p hp)), hne.imp id fun hh p hp => ?_⟩
      simp only [Value.ownBlock, ne_eq, Option.some.injEq]; exact hh p hp
    · rw [if_neg hij] at hs hd'
      obtain ⟨h4, h5⟩ := h3 j s d' hs hd'
      refine ⟨h4.block hR (h5.imp id fun hh p hp => hbut.block _ (fun e => hh p hp (by rw [← e]; rfl))), h5⟩

/-- a fresh list is apart from every block that there was -/
theorem OwnR.apart {α : Type} {base : Nat} {e : TypeId} {sz : Nat} {enc : α → List Value} {w : World} {a : Option Addr} {l c : Nat} {xs : List α} (h : OwnR base e sz enc w a l c xs) {g : Nat} (hg : g < base) : xs = [] ∨ ∀ p, a = some p → p.block ≠ g :=
  .inr fun p hp e => by have := (h.lt p.block (by rw [hp]; rfl)).1; omega

theorem Rows.lt {α : Type} {sz : Nat} {R : World → Cells → α → Prop} (hR : ∀ w f x, R w f x → ∃ v, f 0 = some v) {w : World} {a : Option Addr} {l : Nat} {xs : List α} (h : Rows sz R w a l xs) : xs = [] ∨ ∀ p, a = some p → p.block < w.heap.size := by
  rcases h.2 with h | ⟨b, o, rfl, hx⟩
  · exact .inl h
  · cases xs with
    | nil => exact .inl rfl
    | cons x xs =>
      right
      intro p hp; cases hp
      obtain ⟨v, hv⟩ := hR _ _ _ (hx 0 x rfl)
      exact block_lt_of_cell (a := ⟨b, o + 0 * sz + 0, none⟩) hv
theorem RPair.some0 : ∀ (w : World) f x, RPair w f x → ∃ v, f 0 = some v := fun _ _ _ h => ⟨_, h.1⟩
theorem RInt.some0 : ∀ (w : World) f x, RInt w f x → ∃ v, f 0 = some v := fun _ _ _ h => ⟨_, h⟩

/-- one list more -/
theorem RowsO.push {β : Type} {P : Program} {t ty e te : TypeId} {bytes base sz : Nat} {R : World → Cells → β → Prop} (hR : Mono R) (hR2 : ∀ w w' f x, R w f x → R w' f x) (hR0 : ∀ w f x, R w f x → ∃ v, f 0 = some v) {w : World} {a : Option Addr} {l c : Nat} {ds : List (List β)}
    (H : SlT P t e 1 bytes) (h : RowsO base e sz R w a l c ds) (hb : base ≤ w.heap.size) (hlen : (ds.length + 1) * bytes ≤ 140737488355328) {a' : Option Addr} {l' c' : Nat} {d : List β} (hd : Rows sz R w a' l' d)
    (hne : d = [] ∨ ∀ p, a' = some p → some p.block ≠ (Value.slice a l c).ownBlock) {F : Option Addr → Nat → Nat → World → Prop}
    (k : ∀ a2 c2 w', RowsO base e sz R w' a2 (ds.length + 1) c2 (ds ++ [d]) → Below base w w' → F a2 (ds.length + 1) c2 w') :
    AllocK w #[.slice a' l' c'] te fun b w1 => ∃ a2 l2 c2 w2, Sem.run P (Builtin.append_ #[t, t] ty #[.slice a l c, .slice (some b) 1 1]) w1 = .ok (.slice a2 l2 c2) w2 ∧ F a2 l2 c2 w2 := by
  obtain ⟨S, h1, h2, h3⟩ := h
  refine OwnR.push (a', l', c') H h2 hb eS_len eS_one (by rw [h1]; exact hlen) rfl fun a2 c2 w' ho hg hown => ?_
  rw [h1]
  have key : ∀ (s : Option Addr × Nat × Nat) (x : List β), Rows sz R w s.1 s.2.1 x → (x = [] ∨ ∀ p, s.1 = some p → some p.block ≠ (Value.slice a l c).ownBlock) →
      Rows sz R w' s.1 s.2.1 x ∧ (x = [] ∨ ∀ p, s.1 = some p → some p.block ≠ (Value.slice a2 (S.length + 1) c2).ownBlock) := by
    intro s x hx hn
    have hlt := hx.lt hR0
    rcases hn with hn | hn
    · exact ⟨hx.block hR2 (.inl hn), .inl hn⟩
    rcases hlt with hlt | hlt
    · exact ⟨hx.block hR2 (.inl hlt), .inl hlt⟩
    refine ⟨hx.block hR2 (.inr fun p hp => hg.block _ (hlt p hp) (hn p hp)), .inr fun p hp => ?_⟩
    rcases hown with e1 | ⟨g, e1, e2⟩
    · rw [e1]; exact hn p hp
    · rw [e1]; intro e3; simp at e3; have := hlt p hp; omega
  refine k a2 c2 w' ⟨S ++ [(a', l', c')], by simp [h1], by rw [← h1]; exact ho, fun i s x hs hx => ?_⟩ (h2.below hb hg)
  rw [← h1]
  rcases Nat.lt_or_ge i S.length with hi | hi
  · rw [List.getElem?_append_left hi] at hs
    rw [List.getElem?_append_left (by omega)] at hx
    exact key s x (h3 i s x hs hx).1 (h3 i s x hs hx).2
  · rw [List.getElem?_append_right hi] at hs
    rw [List.getElem?_append_right (by omega)] at hx
    have : i - S.length = 0 := by
      have := (List.getElem?_eq_some_iff.1 hs).1
      simp at this; omega
    rw [this] at hs
    rw [← h1, this] at hx
    simp at hs hx; subst hs; subst hx
    exact key _ _ hd hne
end Go.V

namespace Go.Proofs.Ytggfnakhmjkoeaa
open Go Go.V Go.Proofs
open Go.RowKit (Below)
/-! manystrand/manystrandref06.SameDom -/
def N26 (a1 : Option Addr) (l1 : Nat) (_c1 : Nat) (a2 : Option Addr) (l2 : Nat) (_c2 : Nat) (K : Bool → World → Prop) (w : World) : Prop :=
  BoolK (((l1 : Nat) : Int) != (l2 : Nat))
  (K false w)
  (∃ (I3 : Int → World → Prop) (μ4 : Int → World → Nat),
    (I3 0 w ∧ True) ∧
    ∀ (w5 : World) (x6 : Int), I3 x6 w5 →
    BoolK (decide ((x6 : Int) < (l1 : Nat)))
    (DrewK w5 fun w7 =>
      (0 ≤ (x6 : Int) ∧ (x6 : Int) < (l1 : Nat)) ∧
      AddrK a1 fun b8 =>
      ∃ (x9 : Int), w7.cell? ((b8.add ((x6 : Int).toNat * 2)).add 0) = some (.int .i64 x9) ∧
      (∃ (x10 : Int), w7.cell? ((b8.add ((x6 : Int).toNat * 2)).add 1) = some (.int .i64 x10) ∧
        ((0 ≤ (x6 : Int) ∧ (x6 : Int) < (l2 : Nat)) ∧
          AddrK a2 fun b11 =>
          ∃ (x12 : Int), w7.cell? ((b11.add ((x6 : Int).toNat * 2)).add 0) = some (.int .i64 x12) ∧
          (∃ (x13 : Int), w7.cell? ((b11.add ((x6 : Int).toNat * 2)).add 1) = some (.int .i64 x13) ∧
            (BoolK (!(((x9 : Int) == x12) && (((x10 : Int) == x13) && (true))))
              (K false w7)
              (I3 (IntKind.wrap .i64 (x6 + 1)) w7 ∧ μ4 (IntKind.wrap .i64 (x6 + 1)) w7 < μ4 x6 w5))))))
    (K true w5))
def ann26 : Ann := (.two .nil (.two (.two .nil (.two (.two .nil .nil) .nil)) (.two (.two .nil (.one (.loop [(5, (.one (.int .i64)))] [0, 1] (.two (.two .nil (.two .nil .nil)) (.two (.one (.two (.any 9 (.take 0 (.take 1 (.take 2 (.take 3 (.take 4 (.take 5 (.take 6 (.take 7 (.take 8 .done)))))))))) (.two (.two .nil .nil) .nil))) .nil))))) (.two .nil .nil))))
noncomputable def code26 : Code := match Try.f26.body with | some c => c | none => .skip
theorem wp26 (a1 : Option Addr) (l1 : Nat) (c1 : Nat) (a2 : Option Addr) (l2 : Nat) (c2 : Nat) (K : Bool → World → Prop) (w : World) : WP Try.prog tab code26 ann26 (fnQ tab Try.f26.results.toList [(.one .bool)] K) (argE 0 [(.slice a1 l1 c1), (.slice a2 l2 c2)]) w = N26 a1 l1 c1 a2 l2 c2 K w := by kernel_rfl
theorem calls26 (a1 : Option Addr) (l1 : Nat) (c1 : Nat) (a2 : Option Addr) (l2 : Nat) (c2 : Nat) (K : Bool → World → Prop) (w : World) (h : N26 a1 l1 c1 a2 l2 c2 K w) : Calls Try.prog 26 #[(.slice a1 l1 c1), (.slice a2 l2 c2)] w fun en w' => ∃ (p14 : Bool), en = .returned (.bool p14) ∧ K p14 w' :=
  have e : (fun en w' => ExShs [(.one .bool)] fun vs => en = .returned (tupled vs) ∧ ap [(.one .bool)] K vs fun p => p w') = (fun (en : Ending) (w' : World) => ∃ (p14 : Bool), en = .returned (.bool p14) ∧ K p14 w') := by kernel_rfl
  e ▸ fn_sound tabOk mixed Try.func26 (by kernel_rfl : Try.f26.body = some code26) ann26 [(.slice a1 l1 c1), (.slice a2 l2 c2)] [(.one .bool)] K w (by kernel_rfl) ((wp26 a1 l1 c1 a2 l2 c2 K w).symm ▸ h)
end Go.Proofs.Ytggfnakhmjkoeaa

namespace Go.Proofs.Ytggfnakhmjkoeaa
open Go Go.V Go.Proofs
open Go.RowKit (Below)
/-! manystrand/manystrandref06.SameDoms -/
def N15 (a1 : Option Addr) (l1 : Nat) (_c1 : Nat) (a2 : Option Addr) (l2 : Nat) (_c2 : Nat) (K : Bool → World → Prop) (w : World) : Prop :=
  BoolK (((l1 : Nat) : Int) != (l2 : Nat))
  (K false w)
  (∃ (I3 : Int → World → Prop) (μ4 : Int → World → Nat),
    (I3 0 w ∧ True) ∧
    ∀ (w5 : World) (x6 : Int), I3 x6 w5 →
    BoolK (decide ((x6 : Int) < (l1 : Nat)))
    (DrewK w5 fun w7 =>
      (0 ≤ (x6 : Int) ∧ (x6 : Int) < (l1 : Nat)) ∧
      AddrK a1 fun b8 =>
      ∃ (a9 : Option Addr) (l9 : Nat) (c9 : Nat), w7.cell? (b8.add ((x6 : Int).toNat * 1)) = some (.slice a9 l9 c9) ∧
      ((0 ≤ (x6 : Int) ∧ (x6 : Int) < (l2 : Nat)) ∧
        AddrK a2 fun b10 =>
        ∃ (a11 : Option Addr) (l11 : Nat) (c11 : Nat), w7.cell? (b10.add ((x6 : Int).toNat * 1)) = some (.slice a11 l11 c11) ∧
        (Calls Try.prog 26 #[(.slice a9 l9 c9), (.slice a11 l11 c11)] w7 fun e14 w13 =>
          ∃ (p12 : Bool), e14 = .returned (.bool p12) ∧
          (Below w7.heap.size w7 w13 ∧
            (BoolK (!p12)
              (K false w13)
              (I3 (IntKind.wrap .i64 (x6 + 1)) w13 ∧ μ4 (IntKind.wrap .i64 (x6 + 1)) w13 < μ4 x6 w5))))))
    (K true w5))
def ann15 : Ann := (.two .nil (.two (.two .nil (.two (.two .nil .nil) .nil)) (.two (.two .nil (.one (.loop [(5, (.one (.int .i64)))] [0, 1] (.two (.two .nil (.two .nil .nil)) (.two (.one (.two (.any 10 (.take 0 (.take 1 (.take 2 (.take 3 (.take 4 (.take 5 (.take 6 (.take 7 (.one 8 (.take 9 .done))))))))))) (.two (.two .nil .nil) .nil))) .nil))))) (.two .nil .nil))))
noncomputable def code15 : Code := match Try.f15.body with | some c => c | none => .skip
theorem wp15 (a1 : Option Addr) (l1 : Nat) (c1 : Nat) (a2 : Option Addr) (l2 : Nat) (c2 : Nat) (K : Bool → World → Prop) (w : World) : WP Try.prog tab code15 ann15 (fnQ tab Try.f15.results.toList [(.one .bool)] K) (argE 0 [(.slice a1 l1 c1), (.slice a2 l2 c2)]) w = N15 a1 l1 c1 a2 l2 c2 K w := by kernel_rfl
theorem calls15 (a1 : Option Addr) (l1 : Nat) (c1 : Nat) (a2 : Option Addr) (l2 : Nat) (c2 : Nat) (K : Bool → World → Prop) (w : World) (h : N15 a1 l1 c1 a2 l2 c2 K w) : Calls Try.prog 15 #[(.slice a1 l1 c1), (.slice a2 l2 c2)] w fun en w' => ∃ (p15 : Bool), en = .returned (.bool p15) ∧ K p15 w' :=
  have e : (fun en w' => ExShs [(.one .bool)] fun vs => en = .returned (tupled vs) ∧ ap [(.one .bool)] K vs fun p => p w') = (fun (en : Ending) (w' : World) => ∃ (p15 : Bool), en = .returned (.bool p15) ∧ K p15 w') := by kernel_rfl
  e ▸ fn_sound tabOk mixed Try.func15 (by kernel_rfl : Try.f15.body = some code15) ann15 [(.slice a1 l1 c1), (.slice a2 l2 c2)] [(.one .bool)] K w (by kernel_rfl) ((wp15 a1 l1 c1 a2 l2 c2 K w).symm ▸ h)
end Go.Proofs.Ytggfnakhmjkoeaa

namespace Go.Proofs.Ytggfnakhmjkoeaa
open Go Go.V Go.Proofs
open Go.RowKit (Below)
/-! manystrand/domain.allValid -/
def N50 (a1 : Option Addr) (l1 : Nat) (_c1 : Nat) (K : Bool → World → Prop) (w : World) : Prop :=
  ∃ (I2 : Int → World → Prop) (μ3 : Int → World → Nat),
  (I2 0 w ∧ True) ∧
  ∀ (w4 : World) (x5 : Int), I2 x5 w4 →
  BoolK (decide ((x5 : Int) < (l1 : Nat)))
  ((0 ≤ (x5 : Int) ∧ (x5 : Int) < (l1 : Nat)) ∧
    AddrK a1 fun b6 =>
    ∃ (a7 : Option Addr) (l7 : Nat) (c7 : Nat), w4.cell? (b6.add ((x5 : Int).toNat * 1)) = some (.slice a7 l7 c7) ∧
    (Calls Try.prog 32 #[(.slice a7 l7 c7)] w4 fun e10 w9 =>
      ∃ (p8 : Bool), e10 = .returned (.bool p8) ∧
      (BoolK (!p8)
        (K false w9)
        (I2 (IntKind.wrap .i64 (x5 + 1)) w9 ∧ μ3 (IntKind.wrap .i64 (x5 + 1)) w9 < μ3 x5 w4))))
  (K (decide (((l1 : Nat) : Int) ≤ 40)) w4)
def ann50 : Ann := (.two .nil (.two (.two .nil (.one (.loop [(7, (.one (.int .i64)))] [0, 5, 6] (.two .nil (.two (.two .nil .nil) (.two (.one (.two .nil (.two .nil (.two (.two .nil .nil) .nil)))) .nil)))))) (.two .nil .nil)))
noncomputable def code50 : Code := match Try.f50.body with | some c => c | none => .skip
theorem wp50 (a1 : Option Addr) (l1 : Nat) (c1 : Nat) (K : Bool → World → Prop) (w : World) : WP Try.prog tab code50 ann50 (fnQ tab Try.f50.results.toList [(.one .bool)] K) (argE 0 [(.slice a1 l1 c1)]) w = N50 a1 l1 c1 K w := by kernel_rfl
theorem calls50 (a1 : Option Addr) (l1 : Nat) (c1 : Nat) (K : Bool → World → Prop) (w : World) (h : N50 a1 l1 c1 K w) : Calls Try.prog 50 #[(.slice a1 l1 c1)] w fun en w' => ∃ (p11 : Bool), en = .returned (.bool p11) ∧ K p11 w' :=
  have e : (fun en w' => ExShs [(.one .bool)] fun vs => en = .returned (tupled vs) ∧ ap [(.one .bool)] K vs fun p => p w') = (fun (en : Ending) (w' : World) => ∃ (p11 : Bool), en = .returned (.bool p11) ∧ K p11 w') := by kernel_rfl
  e ▸ fn_sound tabOk mixed Try.func50 (by kernel_rfl : Try.f50.body = some code50) ann50 [(.slice a1 l1 c1)] [(.one .bool)] K w (by kernel_rfl) ((wp50 a1 l1 c1 K w).symm ▸ h)
end Go.Proofs.Ytggfnakhmjkoeaa

namespace Go.Proofs.Ytggfnakhmjkoeaa
open Go Go.V Go.Proofs
open Go.RowKit (Below)
/-! manystrand/manystrandref06.ValidAll -/
def N52 (a1 : Option Addr) (l1 : Nat) (_c1 : Nat) (K : Bool → World → Prop) (w : World) : Prop :=
  ∃ (I2 : Int → World → Prop) (μ3 : Int → World → Nat),
  (I2 0 w ∧ True) ∧
  ∀ (w4 : World) (x5 : Int), I2 x5 w4 →
  BoolK (decide ((x5 : Int) < (l1 : Nat)))
  ((0 ≤ (x5 : Int) ∧ (x5 : Int) < (l1 : Nat)) ∧
    AddrK a1 fun b6 =>
    ∃ (a7 : Option Addr) (l7 : Nat) (c7 : Nat), w4.cell? (b6.add ((x5 : Int).toNat * 1)) = some (.slice a7 l7 c7) ∧
    (Calls Try.prog 33 #[(.slice a7 l7 c7)] w4 fun e10 w9 =>
      ∃ (p8 : Bool), e10 = .returned (.bool p8) ∧
      (BoolK (!p8)
        (K false w9)
        (I2 (IntKind.wrap .i64 (x5 + 1)) w9 ∧ μ3 (IntKind.wrap .i64 (x5 + 1)) w9 < μ3 x5 w4))))
  (K (decide (((l1 : Nat) : Int) ≤ 40)) w4)
def ann52 : Ann := (.two .nil (.two (.two .nil (.one (.loop [(3, (.one (.int .i64)))] [0] (.two (.two .nil (.two .nil .nil)) (.two (.one (.two .nil (.two (.two .nil .nil) .nil))) .nil))))) (.two .nil .nil)))
noncomputable def code52 : Code := match Try.f52.body with | some c => c | none => .skip
theorem wp52 (a1 : Option Addr) (l1 : Nat) (c1 : Nat) (K : Bool → World → Prop) (w : World) : WP Try.prog tab code52 ann52 (fnQ tab Try.f52.results.toList [(.one .bool)] K) (argE 0 [(.slice a1 l1 c1)]) w = N52 a1 l1 c1 K w := by kernel_rfl
theorem calls52 (a1 : Option Addr) (l1 : Nat) (c1 : Nat) (K : Bool → World → Prop) (w : World) (h : N52 a1 l1 c1 K w) : Calls Try.prog 52 #[(.slice a1 l1 c1)] w fun en w' => ∃ (p11 : Bool), en = .returned (.bool p11) ∧ K p11 w' :=
  have e : (fun en w' => ExShs [(.one .bool)] fun vs => en = .returned (tupled vs) ∧ ap [(.one .bool)] K vs fun p => p w') = (fun (en : Ending) (w' : World) => ∃ (p11 : Bool), en = .returned (.bool p11) ∧ K p11 w') := by kernel_rfl
  e ▸ fn_sound tabOk mixed Try.func52 (by kernel_rfl : Try.f52.body = some code52) ann52 [(.slice a1 l1 c1)] [(.one .bool)] K w (by kernel_rfl) ((wp52 a1 l1 c1 K w).symm ▸ h)
end Go.Proofs.Ytggfnakhmjkoeaa

namespace Go.Proofs.Ytggfnakhmjkoeaa
open Go Go.V Go.Proofs
open Go.RowKit (Below)
/-! manystrand/domain.copied -/
def N57 (a1 : Option Addr) (l1 : Nat) (_c1 : Nat) (K : Option Addr → Nat → Nat → World → Prop) (w : World) : Prop :=
  (0 ≤ ((l1 : Nat) : Int) ∧ ((l1 : Nat) : Int) ≤ (l1 : Nat) ∧ ((24 : Nat) : Int) * (l1 : Nat) ≤ 281474976710656 ∧ ((l1 : Nat) : Int) ≤ 9223372036854775807) ∧
  AllocK w (madeCells (#[.slice none 0 0]) (((l1 : Nat) : Int).toNat * 1)) 38 fun b2 w3 =>
  ∃ (I4 : Int → World → Prop) (μ5 : Int → World → Nat),
  (I4 0 w3 ∧ True) ∧
  ∀ (w6 : World) (x7 : Int), I4 x7 w6 →
  BoolK (decide ((x7 : Int) < (l1 : Nat)))
  ((0 ≤ (x7 : Int) ∧ (x7 : Int) < (l1 : Nat)) ∧
    AddrK a1 fun b8 =>
    ∃ (a9 : Option Addr) (l9 : Nat) (c9 : Nat), w6.cell? (b8.add ((x7 : Int).toNat * 1)) = some (.slice a9 l9 c9) ∧
    (∃ (a10 : Option Addr), ∃ (l10 : Nat), ∃ (c10 : Nat), ∃ (w11 : World), Sem.run Try.prog (Builtin.append_ #[38, 38] 38 #[(.slice none 0 0), (.slice a9 l9 c9)]) w6 = .ok (.slice a10 l10 c10) w11 ∧
      ((0 ≤ (x7 : Int) ∧ (x7 : Int) < (((l1 : Nat) : Int).toNat : Nat)) ∧
        SetK w11 (b2.add ((x7 : Int).toNat * 1)) (.slice a10 l10 c10) fun w12 =>
        I4 (IntKind.wrap .i64 (x7 + 1)) w12 ∧ μ5 (IntKind.wrap .i64 (x7 + 1)) w12 < μ5 x7 w6)))
  (K (some b2) (((l1 : Nat) : Int).toNat) (((l1 : Nat) : Int).toNat) w6)
def ann57 : Ann := (.two .nil (.two .nil (.two (.two .nil (.one (.loop [(11, (.one (.int .i64)))] [3, 9, 10] (.two .nil (.two (.two .nil .nil) (.two (.one (.two .nil .nil)) .nil)))))) (.two .nil .nil))))
noncomputable def code57 : Code := match Try.f57.body with | some c => c | none => .skip
theorem wp57 (a1 : Option Addr) (l1 : Nat) (c1 : Nat) (K : Option Addr → Nat → Nat → World → Prop) (w : World) : WP Try.prog tab code57 ann57 (fnQ tab Try.f57.results.toList [(.one .slice)] K) (argE 0 [(.slice a1 l1 c1)]) w = N57 a1 l1 c1 K w := by kernel_rfl
theorem calls57 (a1 : Option Addr) (l1 : Nat) (c1 : Nat) (K : Option Addr → Nat → Nat → World → Prop) (w : World) (h : N57 a1 l1 c1 K w) : Calls Try.prog 57 #[(.slice a1 l1 c1)] w fun en w' => ∃ (a13 : Option Addr), ∃ (l13 : Nat), ∃ (c13 : Nat), en = .returned (.slice a13 l13 c13) ∧ K a13 l13 c13 w' :=
  have e : (fun en w' => ExShs [(.one .slice)] fun vs => en = .returned (tupled vs) ∧ ap [(.one .slice)] K vs fun p => p w') = (fun (en : Ending) (w' : World) => ∃ (a13 : Option Addr), ∃ (l13 : Nat), ∃ (c13 : Nat), en = .returned (.slice a13 l13 c13) ∧ K a13 l13 c13 w') := by kernel_rfl
  e ▸ fn_sound tabOk mixed Try.func57 (by kernel_rfl : Try.f57.body = some code57) ann57 [(.slice a1 l1 c1)] [(.one .slice)] K w (by kernel_rfl) ((wp57 a1 l1 c1 K w).symm ▸ h)
end Go.Proofs.Ytggfnakhmjkoeaa

namespace Go.Proofs.Ytggfnakhmjkoeaa
open Go Go.V Go.Proofs
open Go.RowKit (Below)
/-! manystrand/manystrandref06.Copies -/
def N53 (a1 : Option Addr) (l1 : Nat) (_c1 : Nat) (K : Option Addr → Nat → Nat → World → Prop) (w : World) : Prop :=
  ∃ (I2 : Option Addr → Nat → Nat → Int → World → Prop) (μ3 : Option Addr → Nat → Nat → Int → World → Nat),
  (I2 none 0 0 0 w ∧ True) ∧
  ∀ (w4 : World) (a5 : Option Addr) (l5 : Nat) (c5 : Nat) (x6 : Int), I2 a5 l5 c5 x6 w4 →
  BoolK (decide ((x6 : Int) < (l1 : Nat)))
  ((0 ≤ (x6 : Int) ∧ (x6 : Int) < (l1 : Nat)) ∧
    AddrK a1 fun b7 =>
    ∃ (a8 : Option Addr) (l8 : Nat) (c8 : Nat), w4.cell? (b7.add ((x6 : Int).toNat * 1)) = some (.slice a8 l8 c8) ∧
    (∃ (a9 : Option Addr), ∃ (l9 : Nat), ∃ (c9 : Nat), ∃ (w10 : World), Sem.run Try.prog (Builtin.append_ #[38, 38] 38 #[(.slice none 0 0), (.slice a8 l8 c8)]) w4 = .ok (.slice a9 l9 c9) w10 ∧
      (AllocK w10 (#[(.slice a9 l9 c9)]) 38 fun b11 w12 =>
        ∃ (a13 : Option Addr), ∃ (l13 : Nat), ∃ (c13 : Nat), ∃ (w14 : World), Sem.run Try.prog (Builtin.append_ #[25, 25] 25 #[(.slice a5 l5 c5), (.slice (some b11) 1 1)]) w12 = .ok (.slice a13 l13 c13) w14 ∧
        (I2 a13 l13 c13 (IntKind.wrap .i64 (x6 + 1)) w14 ∧ μ3 a13 l13 c13 (IntKind.wrap .i64 (x6 + 1)) w14 < μ3 a5 l5 c5 x6 w4))))
  (K a5 l5 c5 w4)
def ann53 : Ann := (.two .nil (.two .nil (.two (.two .nil (.one (.loop [(3, (.one .slice)), (4, (.one (.int .i64)))] [0] (.two (.two .nil (.two .nil .nil)) (.two (.one .nil) .nil))))) (.two .nil .nil))))
noncomputable def code53 : Code := match Try.f53.body with | some c => c | none => .skip
theorem wp53 (a1 : Option Addr) (l1 : Nat) (c1 : Nat) (K : Option Addr → Nat → Nat → World → Prop) (w : World) : WP Try.prog tab code53 ann53 (fnQ tab Try.f53.results.toList [(.one .slice)] K) (argE 0 [(.slice a1 l1 c1)]) w = N53 a1 l1 c1 K w := by kernel_rfl
theorem calls53 (a1 : Option Addr) (l1 : Nat) (c1 : Nat) (K : Option Addr → Nat → Nat → World → Prop) (w : World) (h : N53 a1 l1 c1 K w) : Calls Try.prog 53 #[(.slice a1 l1 c1)] w fun en w' => ∃ (a15 : Option Addr), ∃ (l15 : Nat), ∃ (c15 : Nat), en = .returned (.slice a15 l15 c15) ∧ K a15 l15 c15 w' :=
  have e : (fun en w' => ExShs [(.one .slice)] fun vs => en = .returned (tupled vs) ∧ ap [(.one .slice)] K vs fun p => p w') = (fun (en : Ending) (w' : World) => ∃ (a15 : Option Addr), ∃ (l15 : Nat), ∃ (c15 : Nat), en = .returned (.slice a15 l15 c15) ∧ K a15 l15 c15 w') := by kernel_rfl
  e ▸ fn_sound tabOk mixed Try.func53 (by kernel_rfl : Try.f53.body = some code53) ann53 [(.slice a1 l1 c1)] [(.one .slice)] K w (by kernel_rfl) ((wp53 a1 l1 c1 K w).symm ▸ h)
end Go.Proofs.Ytggfnakhmjkoeaa

namespace Go.Proofs.Ytggfnakhmjkoeaa
open Go Go.V Go.Proofs
open Go.RowKit (Below)
/-! manystrand/domain.within -/
def N55 (x1 : Int) (a2 : Option Addr) (l2 : Nat) (_c2 : Nat) (K : Bool → World → Prop) (w : World) : Prop :=
  ∃ (I3 : Int → World → Prop) (μ4 : Int → World → Nat),
  (I3 0 w ∧ True) ∧
  ∀ (w5 : World) (x6 : Int), I3 x6 w5 →
  BoolK (decide ((x6 : Int) < (l2 : Nat)))
  ((0 ≤ (x6 : Int) ∧ (x6 : Int) < (l2 : Nat)) ∧
    AddrK a2 fun b7 =>
    ∃ (x8 : Int), w5.cell? (b7.add ((x6 : Int).toNat * 1)) = some (.int .i64 x8) ∧
    (BoolK (decide ((x8 : Int) < x1))
      (K false w5)
      (BoolK (decide ((x8 : Int) > 1000000))
        (K false w5)
        (I3 (IntKind.wrap .i64 (x6 + 1)) w5 ∧ μ4 (IntKind.wrap .i64 (x6 + 1)) w5 < μ4 x6 w5))))
  (K true w5)
def ann55 : Ann := (.two .nil (.two (.two .nil (.one (.loop [(9, (.one (.int .i64)))] [0, 7, 8] (.two .nil (.two (.two .nil .nil) (.two (.one (.two .nil (.two .nil (.two (.two .nil .nil) .nil)))) .nil)))))) (.two .nil .nil)))
noncomputable def code55 : Code := match Try.f55.body with | some c => c | none => .skip
theorem wp55 (x1 : Int) (a2 : Option Addr) (l2 : Nat) (c2 : Nat) (K : Bool → World → Prop) (w : World) : WP Try.prog tab code55 ann55 (fnQ tab Try.f55.results.toList [(.one .bool)] K) (argE 0 [(.int .i64 x1), (.slice a2 l2 c2)]) w = N55 x1 a2 l2 c2 K w := by kernel_rfl
theorem calls55 (x1 : Int) (a2 : Option Addr) (l2 : Nat) (c2 : Nat) (K : Bool → World → Prop) (w : World) (h : N55 x1 a2 l2 c2 K w) : Calls Try.prog 55 #[(.int .i64 x1), (.slice a2 l2 c2)] w fun en w' => ∃ (p9 : Bool), en = .returned (.bool p9) ∧ K p9 w' :=
  have e : (fun en w' => ExShs [(.one .bool)] fun vs => en = .returned (tupled vs) ∧ ap [(.one .bool)] K vs fun p => p w') = (fun (en : Ending) (w' : World) => ∃ (p9 : Bool), en = .returned (.bool p9) ∧ K p9 w') := by kernel_rfl
  e ▸ fn_sound tabOk mixed Try.func55 (by kernel_rfl : Try.f55.body = some code55) ann55 [(.int .i64 x1), (.slice a2 l2 c2)] [(.one .bool)] K w (by kernel_rfl) ((wp55 x1 a2 l2 c2 K w).symm ▸ h)
end Go.Proofs.Ytggfnakhmjkoeaa

namespace Go.Proofs.Ytggfnakhmjkoeaa
open Go Go.V Go.Proofs
open Go.RowKit (Below)

/-- all numbers of a list of ranges are of 64 bits -/
def Sm (d : List (Int × Int)) : Prop := d.length ≤ 9223372036854775807 ∧ ∀ p ∈ d, p.2 ≤ 9223372036854775807 ∧ -9223372036854775808 ≤ p.2
theorem VD.sm {d : List (Int × Int)} (h : VD d) : Sm d := ⟨by have := h.len; omega, fun p hp => by have := h.all p hp; omega⟩

theorem domsAt {w : World} {a : Option Addr} {l : Nat} {ds : List (List (Int × Int))} (h : Doms w a l ds) (w' : World) (k : Ext w w') {i : Nat} (hi : i < ds.length) :
    ∃ b o a' l' c', a = some ⟨b, o, none⟩ ∧ w'.cell? ⟨b, o + i, none⟩ = some (.slice a' l' c') ∧ Dom w' a' l' ds[i] := by
  obtain ⟨b, o, ha, a', l', c', h0, h1⟩ := (h.ext (RSl.mono RPair.mono) k).get hi
  exact ⟨b, o, a', l', c', ha, by simpa using h0, h1⟩
theorem Doms.len {w : World} {a : Option Addr} {l : Nat} {ds : List (List (Int × Int))} (h : Doms w a l ds) : l = ds.length := h.1

theorem take_succ_eq {α : Type} {d e : List α} {k : Nat} (h1 : k < d.length) (h2 : k < e.length) : (d.take (k + 1) = e.take (k + 1)) ↔ (d.take k = e.take k ∧ d[k] = e[k]) := by
  have hs : ∀ (x : List α) (h : k < x.length), x.take (k + 1) = x.take k ++ [x[k]] := fun x h => by rw [List.take_add_one, List.getElem?_eq_getElem h]; rfl
  rw [hs d h1, hs e h2]
  constructor
  · intro h
    have := List.append_inj' h rfl
    exact ⟨this.1, by simpa using this.2⟩
  · rintro ⟨h3, h4⟩; rw [h3, h4]

theorem c26 (w : World) (a b : Option Addr) (l c m g : Nat) (d e : List (Int × Int)) (hd : Dom w a l d) (he : Dom w b m e) (hl : d.length ≤ 9223372036854775807) :
    Calls Try.prog 26 #[.slice a l c, .slice b m g] w fun en w' => ∃ p, en = .returned (.bool p) ∧ (p = decide (d = e) ∧ Ext w w') := by
  refine calls26 a l c b m g _ w ?_
  have e1 := hd.1
  have e2 := he.1
  refine BoolK.mk (fun t => ?_) (fun t => ?_)
  · simp at t
    exact ⟨(decide_eq_false (fun e => t (by rw [e1, e2, e]))).symm, Ext.refl w⟩
  simp at t
  refine ⟨fun i w' => ∃ k : Nat, i = k ∧ k ≤ d.length ∧ d.take k = e.take k ∧ Ext w w', fun i _ => d.length - i.toNat, ⟨⟨0, rfl, by omega, rfl, Ext.refl w⟩, trivial⟩, ?_⟩
  rintro w4 i ⟨k, rfl, hk, hv, hB⟩
  refine BoolK.mk (fun hlt => ?_) (fun hge => ?_)
  · have hlt : k < d.length := by simp at hlt; omega
    have hlt2 : k < e.length := by omega
    have hB6 := hB.trans (Ext.drew w4)
    obtain ⟨b1, o1, rfl, h0, h1⟩ := domAt hd w4.drew hB6 hlt
    obtain ⟨b2, o2, rfl, g0, g1⟩ := domAt he w4.drew hB6 hlt2
    refine ⟨by omega, ?_⟩
    simp only [AddrK, Int.toNat_natCast, add_mk, Nat.add_zero]
    refine ⟨_, h0, _, h1, by omega, _, g0, _, g1, BoolK.mk (fun t => ?_) (fun t => ?_)⟩
    · refine ⟨(decide_eq_false (fun ee => ?_)).symm, hB6⟩
      subst ee; simp at t
    · rw [wrap_succ (by omega)]
      refine ⟨⟨k + 1, rfl, by omega, (take_succ_eq hlt hlt2).2 ⟨hv, ?_⟩, hB6⟩, by simp; omega⟩
      simp at t
      exact Prod.ext t.1 t.2
  · have : k = d.length := by simp at hge; omega
    subst this
    rw [List.take_length, List.take_of_length_le (by omega)] at hv
    exact ⟨(decide_eq_true hv).symm, hB⟩

theorem c15 (w : World) (a b : Option Addr) (l c m g : Nat) (ds es : List (List (Int × Int))) (hd : Doms w a l ds) (he : Doms w b m es) (hl : ds.length ≤ 9223372036854775807) (hl2 : ∀ d ∈ ds, d.length ≤ 9223372036854775807) :
    Calls Try.prog 15 #[.slice a l c, .slice b m g] w fun en w' => ∃ p, en = .returned (.bool p) ∧ (p = decide (ds = es) ∧ Ext w w') := by
  refine calls15 a l c b m g _ w ?_
  have e1 := hd.1
  have e2 := he.1
  refine BoolK.mk (fun t => ?_) (fun t => ?_)
  · simp at t
    exact ⟨(decide_eq_false (fun e => t (by rw [e1, e2, e]))).symm, Ext.refl w⟩
  simp at t
  refine ⟨fun i w' => ∃ k : Nat, i = k ∧ k ≤ ds.length ∧ ds.take k = es.take k ∧ Ext w w', fun i _ => ds.length - i.toNat, ⟨⟨0, rfl, by omega, rfl, Ext.refl w⟩, trivial⟩, ?_⟩
  rintro w4 i ⟨k, rfl, hk, hv, hB⟩
  refine BoolK.mk (fun hlt => ?_) (fun hge => ?_)
  · have hlt : k < ds.length := by simp at hlt; omega
    have hlt2 : k < es.length := by omega
    have hB6 := hB.trans (Ext.drew w4)
    obtain ⟨b1, o1, a1, l1, c1, rfl, h0, h1⟩ := domsAt hd w4.drew hB6 hlt
    obtain ⟨b2, o2, a2, l2, c2, rfl, g0, g1⟩ := domsAt he w4.drew hB6 hlt2
    refine ⟨by omega, ?_⟩
    simp only [AddrK, Int.toNat_natCast, add_mk, Nat.mul_one]
    refine ⟨_, _, _, h0, by omega, _, _, _, g0, ?_⟩
    refine (c26 _ _ _ _ _ _ _ _ _ h1 g1 (hl2 _ (List.getElem_mem _))).mono ?_
    rintro en w13 ⟨p, rfl, rfl, hx⟩
    have hB13 := hB6.trans hx
    refine ⟨_, rfl, hx, BoolK.mk (fun t => ?_) (fun t => ?_)⟩
    · simp at t
      refine ⟨(decide_eq_false (fun ee => ?_)).symm, hB13⟩
      subst ee; exact t rfl
    · simp at t
      rw [wrap_succ (by omega)]
      exact ⟨⟨k + 1, rfl, by omega, (take_succ_eq hlt hlt2).2 ⟨hv, t⟩, hB13⟩, by simp; omega⟩
  · have : k = ds.length := by simp at hge; omega
    subst this
    rw [List.take_length, List.take_of_length_le (by omega)] at hv
    exact ⟨(decide_eq_true hv).symm, hB⟩

def allVB (ds : List (List (Int × Int))) : Bool := ds.all validB && decide (ds.length ≤ 40)
theorem all_take {α : Type} {p : α → Bool} {d : List α} {k : Nat} (hk : k < d.length) : (d.take (k + 1)).all p = ((d.take k).all p && p d[k]) := by
  have hs : d.take (k + 1) = d.take k ++ [d[k]] := by rw [List.take_add_one, List.getElem?_eq_getElem hk]; rfl
  rw [hs, List.all_append]; simp
theorem any_take {α : Type} {p : α → Bool} {d : List α} {k : Nat} (hk : k < d.length) : (d.take (k + 1)).any p = ((d.take k).any p || p d[k]) := by
  have hs : d.take (k + 1) = d.take k ++ [d[k]] := by rw [List.take_add_one, List.getElem?_eq_getElem hk]; rfl
  rw [hs, List.any_append]; simp
theorem all_false {α : Type} {p : α → Bool} {d : List α} {k : Nat} (hk : k < d.length) (h : p d[k] = false) : d.all p = false := by
  rw [List.all_eq_false]; exact ⟨d[k], List.getElem_mem _, by simp [h]⟩
theorem any_true {α : Type} {p : α → Bool} {d : List α} {k : Nat} (hk : k < d.length) (h : p d[k] = true) : d.any p = true := by
  rw [List.any_eq_true]; exact ⟨d[k], List.getElem_mem _, h⟩

theorem c50 (w : World) (a : Option Addr) (l c : Nat) (ds : List (List (Int × Int))) (h : Doms w a l ds) (hl : ds.length ≤ 9223372036854775807) (hs : ∀ d ∈ ds, Sm d) :
    Calls Try.prog 50 #[.slice a l c] w fun en w' => ∃ p, en = .returned (.bool p) ∧ (p = allVB ds ∧ Ext w w') := by
  refine calls50 a l c _ w ?_
  have e1 := h.1
  refine ⟨fun i w' => ∃ k : Nat, i = k ∧ k ≤ ds.length ∧ (ds.take k).all validB = true ∧ Ext w w', fun i _ => ds.length - i.toNat, ⟨⟨0, rfl, by omega, rfl, Ext.refl w⟩, trivial⟩, ?_⟩
  rintro w4 i ⟨k, rfl, hk, hv, hB⟩
  refine BoolK.mk (fun hlt => ?_) (fun hge => ?_)
  · have hlt : k < ds.length := by simp at hlt; omega
    obtain ⟨b1, o1, a1, l1, c1, rfl, h0, h1⟩ := domsAt h w4 hB hlt
    refine ⟨by omega, ?_⟩
    simp only [AddrK, Int.toNat_natCast, add_mk, Nat.mul_one]
    refine ⟨_, _, _, h0, (c32 _ _ _ _ _ h1 (hs _ (List.getElem_mem _)).1).mono ?_⟩
    rintro en w9 ⟨p, rfl, rfl, hx⟩
    refine ⟨_, rfl, BoolK.mk (fun t => ?_) (fun t => ?_)⟩
    · simp at t
      exact ⟨by rw [allVB, all_false hlt t]; rfl, hB.trans hx⟩
    · simp at t
      rw [wrap_succ (by omega)]
      exact ⟨⟨k + 1, rfl, by omega, by rw [all_take hlt, hv, t]; rfl, hB.trans hx⟩, by simp; omega⟩
  · have : k = ds.length := by simp at hge; omega
    subst this
    rw [List.take_length] at hv
    exact ⟨by rw [allVB, hv, e1, Bool.true_and, decide_eq_decide]; omega, hB⟩

theorem c52 (w : World) (a : Option Addr) (l c : Nat) (ds : List (List (Int × Int))) (h : Doms w a l ds) (hl : ds.length ≤ 9223372036854775807) (hs : ∀ d ∈ ds, Sm d) :
    Calls Try.prog 52 #[.slice a l c] w fun en w' => ∃ p, en = .returned (.bool p) ∧ (p = allVB ds ∧ Ext w w') := by
  refine calls52 a l c _ w ?_
  have e1 := h.1
  refine ⟨fun i w' => ∃ k : Nat, i = k ∧ k ≤ ds.length ∧ (ds.take k).all validB = true ∧ Ext w w', fun i _ => ds.length - i.toNat, ⟨⟨0, rfl, by omega, rfl, Ext.refl w⟩, trivial⟩, ?_⟩
  rintro w4 i ⟨k, rfl, hk, hv, hB⟩
  refine BoolK.mk (fun hlt => ?_) (fun hge => ?_)
  · have hlt : k < ds.length := by simp at hlt; omega
    obtain ⟨b1, o1, a1, l1, c1, rfl, h0, h1⟩ := domsAt h w4 hB hlt
    refine ⟨by omega, ?_⟩
    simp only [AddrK, Int.toNat_natCast, add_mk, Nat.mul_one]
    refine ⟨_, _, _, h0, (c33 _ _ _ _ _ h1 (hs _ (List.getElem_mem _)).1 (hs _ (List.getElem_mem _)).2).mono ?_⟩
    rintro en w9 ⟨p, rfl, rfl, hx⟩
    refine ⟨_, rfl, BoolK.mk (fun t => ?_) (fun t => ?_)⟩
    · simp at t
      exact ⟨by rw [allVB, all_false hlt t]; rfl, hB.trans hx⟩
    · simp at t
      rw [wrap_succ (by omega)]
      exact ⟨⟨k + 1, rfl, by omega, by rw [all_take hlt, hv, t]; rfl, hB.trans hx⟩, by simp; omega⟩
  · have : k = ds.length := by simp at hge; omega
    subst this
    rw [List.take_length] at hv
    exact ⟨by rw [allVB, hv, e1, Bool.true_and, decide_eq_decide]; omega, hB⟩

theorem eP_dec (w : World) (f : Cells) (x : Int × Int) (h : RPair w f x) (j : Nat) (hj : j < 2) : f j = (eP x)[j]? := by
  rcases (by omega : j = 0 ∨ j = 1) with rfl | rfl
  · exact h.1
  · exact h.2
theorem eI_dec (w : World) (f : Cells) (x : Int) (h : RInt w f x) (j : Nat) (hj : j < 1) : f j = (eI x)[j]? := by
  have : j = 0 := by omega
  subst this; exact h
/-- append(nil, d...) of a list of ranges -/
theorem copyDom {w : World} {a : Option Addr} {l c : Nat} {d : List (Int × Int)} (h : Dom w a l d) (hl : d.length ≤ 1000000) :
    ∃ a' c' w', Sem.run Try.prog (Builtin.append_ #[38, 38] 38 #[.slice none 0 0, .slice a l c]) w = .ok (.slice a' l c') w' ∧ OwnR w.heap.size 55 2 eP w' a' l c' d ∧ Ext w w' :=
  copyRows slt38 h eP_len eP_one (eP_dec w) (by omega)

abbrev DomsO (base : Nat) (w : World) (a : Option Addr) (l c : Nat) (ds : List (List (Int × Int))) : Prop := RowsO base 38 2 RPair w a l c ds

theorem c57 (w : World) (a : Option Addr) (l c : Nat) (ds : List (List (Int × Int))) (h : Doms w a l ds) (hl : ds.length ≤ 1000000) (hs : ∀ d ∈ ds, d.length ≤ 1000000) :
    Calls Try.prog 57 #[.slice a l c] w fun en w' => ∃ a' l' c', en = .returned (.slice a' l' c') ∧ (∃ g, a' = some ⟨g, 0, none⟩) ∧ DomsO w.heap.size w' a' l' c' ds ∧ Ext w w' := by
  refine calls57 a l c _ w ?_
  have e1 := h.1
  refine ⟨by omega, ?_⟩
  simp only [Int.toNat_natCast, Nat.mul_one]
  refine AllocK.mk fun b w3 hb hblk hx => ?_
  -- the row as it was made: of nil slices
  have hmade : DomsO w.heap.size w3 (some ⟨b, 0, none⟩) l l (List.replicate l []) := by
    refine ⟨List.replicate l (none, 0, 0), by simp, ⟨by simp, ?_⟩, fun i s d hs hd => ?_⟩
    · have e2 : (List.replicate l ((none : Option Addr), 0, 0)).flatMap eS = List.replicate l (Value.slice none 0 0) := by
        generalize l = n
        induction n with
        | zero => rfl
        | succ n ih => rw [List.replicate_succ, List.flatMap_cons, ih, List.replicate_succ]; rfl
      rw [e2, List.length_replicate]
      refine ⟨by simp, .inr ⟨b, l, _, rfl, by omega, hblk, Nat.le_refl _, by simp only [maxLen]; omega, ?_, ?_⟩⟩
      · have := congrArg List.length (toList_madeCells_one (.slice none 0 0) l)
        simpa using this
      · rw [toList_madeCells_one, List.take_of_length_le (by simp)]
    · rw [List.getElem?_replicate] at hs hd
      split at hs
      · cases hs; rw [if_pos (by assumption)] at hd; cases hd
        exact ⟨Rows.nil _ _ _ _, .inl rfl⟩
      · cases hs
  refine ⟨fun i w' => ∃ k : Nat, i = k ∧ k ≤ ds.length ∧ DomsO w.heap.size w' (some ⟨b, 0, none⟩) l l (ds.take k ++ List.replicate (ds.length - k) []) ∧ Ext w w', fun i _ => ds.length - i.toNat,
    ⟨⟨0, rfl, by omega, by rw [List.take_zero, List.nil_append, Nat.sub_zero, ← e1]; exact hmade, hx⟩, trivial⟩, ?_⟩
  rintro w4 i ⟨k, rfl, hk, ho, hB⟩
  refine BoolK.mk (fun hlt => ?_) (fun hge => ?_)
  · have hlt : k < ds.length := by simp at hlt; omega
    obtain ⟨b1, o1, a1, l1, c1, rfl, h0, h1⟩ := domsAt h w4 hB hlt
    refine ⟨by omega, ?_⟩
    simp only [AddrK, Int.toNat_natCast, add_mk, Nat.zero_add]
    obtain ⟨a', c', w11, hr, ho11, hx11⟩ := copyDom (c := c1) h1 (hs _ (List.getElem_mem _))
    refine ⟨_, _, _, h0, a', _, c', w11, hr, by omega, ?_⟩
    have hbl : b < w4.heap.size := by
      have := hB.size
      have := (ho.get (i := k) (by simp; omega))
      obtain ⟨g, s, e, _, hg, _⟩ := this
      cases e; exact hg
    refine RowsO.set RPair.leaf (ho.ext RPair.mono hx11) (i := k) (by simp; omega) ho11.dom (ho11.apart hbl) fun w12 ho12 hbut => ?_
    rw [wrap_succ (by omega)]
    refine ⟨⟨k + 1, rfl, by omega, ?_, hbut.below (hB.trans hx11) (by omega)⟩, by simp; omega⟩
    have e3 : (ds.take k ++ List.replicate (ds.length - k) []).set k ds[k] = ds.take (k + 1) ++ List.replicate (ds.length - (k + 1)) [] := by
      rw [List.set_append_right _ _ (by simp; omega), List.length_take, Nat.min_eq_left (by omega), Nat.sub_self, show ds.length - k = ds.length - (k + 1) + 1 by omega, List.replicate_succ, List.set_cons_zero]
      rw [List.take_add_one, List.getElem?_eq_getElem hlt, List.append_assoc]; rfl
    rw [← e3]; exact ho12
  · have : k = ds.length := by simp at hge; omega
    subst this
    rw [List.take_length, Nat.sub_self, List.replicate_zero, List.append_nil] at ho
    exact ⟨⟨b, rfl⟩, ho, hB⟩

theorem c53 (w : World) (a : Option Addr) (l c : Nat) (ds : List (List (Int × Int))) (h : Doms w a l ds) (hl : ds.length ≤ 1000000) (hs : ∀ d ∈ ds, d.length ≤ 1000000) :
    Calls Try.prog 53 #[.slice a l c] w fun en w' => ∃ a' l' c', en = .returned (.slice a' l' c') ∧ DomsO w.heap.size w' a' l' c' ds ∧ Ext w w' := by
  refine calls53 a l c _ w ?_
  have e1 := h.1
  refine ⟨fun a l c i w' => ∃ k : Nat, i = k ∧ k ≤ ds.length ∧ DomsO w.heap.size w' a l c (ds.take k) ∧ Ext w w', fun _ _ _ i _ => ds.length - i.toNat, ⟨⟨0, rfl, by omega, RowsO.nil _ _ _ _ _, Ext.refl w⟩, trivial⟩, ?_⟩
  rintro w4 a5 l5 c5 i ⟨k, rfl, hk, ho, hB⟩
  refine BoolK.mk (fun hlt => ?_) (fun hge => ?_)
  · have hlt : k < ds.length := by simp at hlt; omega
    obtain ⟨b1, o1, a1, l1, c1, rfl, h0, h1⟩ := domsAt h w4 hB hlt
    refine ⟨by omega, ?_⟩
    simp only [AddrK, Int.toNat_natCast, add_mk, Nat.mul_one]
    obtain ⟨a', c', w11, hr, ho11, hx11⟩ := copyDom (c := c1) h1 (hs _ (List.getElem_mem _))
    refine ⟨_, _, _, h0, a', _, c', w11, hr, ?_⟩
    have hlk : (ds.take k).length = k := by rw [List.length_take]; omega
    refine RowsO.push RPair.mono RPair.leaf RPair.some0 slt25 (ho.ext RPair.mono hx11) (hB.trans hx11).size (by rw [hlk]; omega) ho11.dom ?_ fun a2 c2 w' ho' hb' => ?_
    · obtain ⟨S, _, hS, _⟩ := ho
      exact .inr fun p hp e => by have := (hS.lt _ e.symm).2; have := (ho11.lt p.block (by rw [hp]; rfl)).1; omega
    · rw [wrap_succ (by omega)]
      refine ⟨⟨k + 1, rfl, by omega, ?_, Below.trans (hB.trans hx11) hb'⟩, by simp; omega⟩
      rw [List.take_add_one, List.getElem?_eq_getElem hlt]; exact ho'
  · have : k = ds.length := by simp at hge; omega
    subst this
    rw [List.take_length] at ho
    exact ⟨ho, hB⟩

theorem c55 (w : World) (x : Int) (a : Option Addr) (l c : Nat) (d : List Int) (h : Ints w a l d) (hl : d.length ≤ 9223372036854775807) :
    Calls Try.prog 55 #[.int .i64 x, .slice a l c] w fun en w' => ∃ p, en = .returned (.bool p) ∧ (p = d.all (fun v => decide (x ≤ v ∧ v ≤ 1000000)) ∧ Ext w w') := by
  refine calls55 x a l c _ w ?_
  have e1 := h.1
  refine ⟨fun i w' => ∃ k : Nat, i = k ∧ k ≤ d.length ∧ (d.take k).all (fun v => decide (x ≤ v ∧ v ≤ 1000000)) = true ∧ Ext w w', fun i _ => d.length - i.toNat, ⟨⟨0, rfl, by omega, rfl, Ext.refl w⟩, trivial⟩, ?_⟩
  rintro w4 i ⟨k, rfl, hk, hv, hB⟩
  refine BoolK.mk (fun hlt => ?_) (fun hge => ?_)
  · have hlt : k < d.length := by simp at hlt; omega
    obtain ⟨b1, o1, rfl, h0⟩ := intAt h w4 hB hlt
    refine ⟨by omega, ?_⟩
    simp only [AddrK, Int.toNat_natCast, add_mk, Nat.mul_one]
    refine ⟨_, h0, BoolK.mk (fun t => ?_) (fun t => ?_)⟩
    · simp at t; exact ⟨(all_false hlt (decide_eq_false (by omega))).symm, hB⟩
    simp at t
    refine BoolK.mk (fun t2 => ?_) (fun t2 => ?_)
    · simp at t2; exact ⟨(all_false hlt (decide_eq_false (by omega))).symm, hB⟩
    simp at t2
    rw [wrap_succ (by omega)]
    exact ⟨⟨k + 1, rfl, by omega, by rw [all_take hlt, hv, decide_eq_true (by omega)]; rfl, hB⟩, by simp; omega⟩
  · have : k = d.length := by simp at hge; omega
    subst this
    rw [List.take_length] at hv
    exact ⟨hv.symm, hB⟩
end Go.Proofs.Ytggfnakhmjkoeaa

namespace Go.Proofs.Ytggfnakhmjkoeaa
open Go Go.V Go.Proofs
open Go.RowKit (Below)
/-! manystrand/domain.ValidProp -/
def N16 (s1 : ByteArray) (a2 : Option Addr) (l2 : Nat) (c2 : Nat) (a3 : Option Addr) (l3 : Nat) (c3 : Nat) (x4 : Int) (x5 : Int) (K : Bool → World → Prop) (w : World) : Prop :=
  AllocK w (#[(.string s1), (.slice a2 l2 c2), (.slice a3 l3 c3), (.int .i64 x4)]) 24 fun b6 w7 =>
  BoolK (decide ((x5 : Int) < 0))
  (K false w7)
  (BoolK (decide ((x5 : Int) > 40))
    (K false w7)
    (∃ (a8 : Option Addr) (l8 : Nat) (c8 : Nat), w7.cell? (b6.add 1) = some (.slice a8 l8 c8) ∧
      (∃ (I9 : Int → World → Prop) (μ10 : Int → World → Nat),
        (I9 0 w7 ∧ True) ∧
        ∀ (w11 : World) (x12 : Int), I9 x12 w11 →
        BoolK (decide ((x12 : Int) < (l8 : Nat)))
        ((0 ≤ (x12 : Int) ∧ (x12 : Int) < (l8 : Nat)) ∧
          AddrK a8 fun b13 =>
          ∃ (x14 : Int), w11.cell? (b13.add ((x12 : Int).toNat * 1)) = some (.int .i64 x14) ∧
          (BoolK (decide ((x14 : Int) < 0))
            (K false w11)
            (BoolK (decide ((x14 : Int) ≥ x5))
              (K false w11)
              (I9 (IntKind.wrap .i64 (x12 + 1)) w11 ∧ μ10 (IntKind.wrap .i64 (x12 + 1)) w11 < μ10 x12 w11))))
        (DrewK w11 fun w15 =>
          ∃ (a16 : Option Addr) (l16 : Nat) (c16 : Nat), w15.cell? (b6.add 1) = some (.slice a16 l16 c16) ∧
          (∃ (a17 : Option Addr) (l17 : Nat) (c17 : Nat), w15.cell? (b6.add 2) = some (.slice a17 l17 c17) ∧
            (∃ (J18 : Bool → World → Prop),
              (∀ (w19 : World) (p20 : Bool), J18 p20 w19 →
                ∃ (s21 : ByteArray), w19.cell? b6 = some (.string s21) ∧
                (∃ (J22 : Bool → World → Prop),
                  (∀ (w23 : World) (p24 : Bool), J22 p24 w23 →
                    BoolK p24
                    (∃ (a25 : Option Addr) (l25 : Nat) (c25 : Nat), w23.cell? (b6.add 2) = some (.slice a25 l25 c25) ∧
                      (∃ (I26 : Int → World → Prop) (μ27 : Int → World → Nat),
                        (I26 0 w23 ∧ True) ∧
                        ∀ (w28 : World) (x29 : Int), I26 x29 w28 →
                        BoolK (decide ((x29 : Int) < (l25 : Nat)))
                        ((0 ≤ (x29 : Int) ∧ (x29 : Int) < (l25 : Nat)) ∧
                          AddrK a25 fun b30 =>
                          ∃ (x31 : Int), w28.cell? (b30.add ((x29 : Int).toNat * 1)) = some (.int .i64 x31) ∧
                          (BoolK ((x31 : Int) == 0)
                            (K false w28)
                            (I26 (IntKind.wrap .i64 (x29 + 1)) w28 ∧ μ27 (IntKind.wrap .i64 (x29 + 1)) w28 < μ27 x29 w28)))
                        (BoolK p20
                          (BoolK (((l17 : Nat) : Int) == (l16 : Nat))
                            (∃ (a32 : Option Addr) (l32 : Nat) (c32 : Nat), w28.cell? (b6.add 2) = some (.slice a32 l32 c32) ∧
                              (Calls Try.prog 55 #[(.int .i64 (-1000000)), (.slice a32 l32 c32)] w28 fun e35 w34 =>
                                ∃ (p33 : Bool), e35 = .returned (.bool p33) ∧
                                (BoolK p33
                                  (∃ (x36 : Int), w34.cell? (b6.add 3) = some (.int .i64 x36) ∧
                                    (AllocK w34 (#[(.int .i64 x36)]) 3 fun b37 w38 =>
                                      Calls Try.prog 55 #[(.int .i64 (-1000000)), (.slice (some b37) 1 1)] w38 fun e41 w40 =>
                                      ∃ (p39 : Bool), e41 = .returned (.bool p39) ∧
                                      (K p39 w40)))
                                  (K false w34))))
                            (K false w28))
                          (K false w28))))
                    (BoolK ((s21 : ByteArray).toList == ((⟨#[117, 110, 108, 105, 107, 101]⟩ : ByteArray) : ByteArray).toList)
                      (BoolK (((l16 : Nat) : Int) == 2)
                        (BoolK (((l17 : Nat) : Int) == 0)
                          (∃ (x42 : Int), w23.cell? (b6.add 3) = some (.int .i64 x42) ∧
                            (AllocK w23 (#[(.int .i64 x42)]) 3 fun b43 w44 =>
                              Calls Try.prog 55 #[(.int .i64 (-1000000)), (.slice (some b43) 1 1)] w44 fun e47 w46 =>
                              ∃ (p45 : Bool), e47 = .returned (.bool p45) ∧
                              (K p45 w46)))
                          (K false w23))
                        (K false w23))
                      (BoolK ((s21 : ByteArray).toList == ((⟨#[100, 105, 115, 116, 105, 110, 99, 116]⟩ : ByteArray) : ByteArray).toList)
                        (BoolK p20
                          (K (((l17 : Nat) : Int) == 0) w23)
                          (K false w23))
                        (∃ (J48 : Bool → World → Prop),
                          (∀ (w49 : World) (p50 : Bool), J48 p50 w49 →
                            BoolK p50
                            (BoolK (((l16 : Nat) : Int) == 3)
                              (K (((l17 : Nat) : Int) == 0) w49)
                              (K false w49))
                            (BoolK ((s21 : ByteArray).toList == ((⟨#[101, 108, 101, 109, 101, 110, 116]⟩ : ByteArray) : ByteArray).toList)
                              (BoolK (((l16 : Nat) : Int) == 2)
                                (BoolK (decide (((l17 : Nat) : Int) ≥ 1))
                                  (BoolK (decide (((l17 : Nat) : Int) ≤ 40))
                                    (∃ (a51 : Option Addr) (l51 : Nat) (c51 : Nat), w49.cell? (b6.add 2) = some (.slice a51 l51 c51) ∧
                                      (Calls Try.prog 55 #[(.int .i64 (-1000000)), (.slice a51 l51 c51)] w49 fun e54 w53 =>
                                        ∃ (p52 : Bool), e54 = .returned (.bool p52) ∧
                                        (K p52 w53)))
                                    (K false w49))
                                  (K false w49))
                                (K false w49))
                              (BoolK ((s21 : ByteArray).toList == ((⟨#[114, 101, 105, 102, 121]⟩ : ByteArray) : ByteArray).toList)
                                (BoolK (((l16 : Nat) : Int) == 3)
                                  (BoolK (((l17 : Nat) : Int) == 0)
                                    (∃ (x55 : Int), w49.cell? (b6.add 3) = some (.int .i64 x55) ∧
                                      (AllocK w49 (#[(.int .i64 x55)]) 3 fun b56 w57 =>
                                        Calls Try.prog 55 #[(.int .i64 (-1000000)), (.slice (some b56) 1 1)] w57 fun e60 w59 =>
                                        ∃ (p58 : Bool), e60 = .returned (.bool p58) ∧
                                        (K p58 w59)))
                                    (K false w49))
                                  (K false w49))
                                (BoolK ((s21 : ByteArray).toList == ((⟨#[97, 112, 97, 114, 116]⟩ : ByteArray) : ByteArray).toList)
                                  (BoolK (((l16 : Nat) : Int) == 2)
                                    (BoolK (((l17 : Nat) : Int) == 2)
                                      (∃ (a61 : Option Addr) (l61 : Nat) (c61 : Nat), w49.cell? (b6.add 2) = some (.slice a61 l61 c61) ∧
                                        (Calls Try.prog 55 #[(.int .i64 0), (.slice a61 l61 c61)] w49 fun e64 w63 =>
                                          ∃ (p62 : Bool), e64 = .returned (.bool p62) ∧
                                          (K p62 w63)))
                                      (K false w49))
                                    (K false w49))
                                  (K false w49))))) ∧
                          (BoolK ((s21 : ByteArray).toList == ((⟨#[112, 114, 111, 100, 117, 99, 116]⟩ : ByteArray) : ByteArray).toList)
                            (J48 ((s21 : ByteArray).toList == ((⟨#[112, 114, 111, 100, 117, 99, 116]⟩ : ByteArray) : ByteArray).toList) w23)
                            (J48 ((s21 : ByteArray).toList == ((⟨#[109, 97, 120]⟩ : ByteArray) : ByteArray).toList) w23)))))) ∧
                  (BoolK ((s21 : ByteArray).toList == ((⟨#[115, 117, 109]⟩ : ByteArray) : ByteArray).toList)
                    (J22 ((s21 : ByteArray).toList == ((⟨#[115, 117, 109]⟩ : ByteArray) : ByteArray).toList) w19)
                    (J22 ((s21 : ByteArray).toList == ((⟨#[109, 111, 115, 116]⟩ : ByteArray) : ByteArray).toList) w19)))) ∧
              (BoolK (decide (((l16 : Nat) : Int) ≥ 1))
                (J18 (decide (((l16 : Nat) : Int) ≤ 40)) w15)
                (J18 false w15))))))))
def ann16 : Ann := (.two .nil (.two (.two .nil (.two (.two .nil .nil) .nil)) (.two (.two .nil (.one (.loop [(21, (.one (.int .i64)))] [1, 2, 19, 20] (.two .nil (.two (.two .nil .nil) (.two (.one (.two .nil (.two .nil (.two (.two .nil .nil) .nil)))) .nil)))))) (.two (.any 8 (.take 0 (.take 1 (.take 2 (.take 3 (.take 4 (.take 5 (.take 6 (.take 7 .done))))))))) (.cut [(9, (.one .bool))] [2, 7, 8] .nil (.two (.two .nil (.one (.cut [(47, (.one .bool))] [2, 7, 8, 9, 46] (.two .nil (.two .nil .nil)) (.two (.two (.two .nil (.one (.loop [(53, (.one (.int .i64)))] [2, 7, 8, 9, 51, 52] (.two .nil (.two (.two .nil .nil) (.two (.one (.two .nil (.two .nil (.two (.two .nil .nil) .nil)))) .nil)))))) (.two .nil .nil)) (.two .nil (.two (.two .nil .nil) (.two .nil (.two (.two .nil .nil) (.cut [(98, (.one .bool))] [2, 7, 8, 46] (.two .nil (.two .nil .nil)) (.two (.two .nil .nil) (.two .nil (.two (.two .nil .nil) (.two .nil (.two (.two .nil .nil) (.two .nil (.two (.two .nil .nil) .nil)))))))))))))))) (.two .nil .nil)))))))
noncomputable def code16 : Code := match Try.f16.body with | some c => c | none => .skip
theorem wp16 (s1 : ByteArray) (a2 : Option Addr) (l2 : Nat) (c2 : Nat) (a3 : Option Addr) (l3 : Nat) (c3 : Nat) (x4 : Int) (x5 : Int) (K : Bool → World → Prop) (w : World) : WP Try.prog tab code16 ann16 (fnQ tab Try.f16.results.toList [(.one .bool)] K) (argE 0 [(.agg #[(.string s1), (.slice a2 l2 c2), (.slice a3 l3 c3), (.int .i64 x4)]), (.int .i64 x5)]) w = N16 s1 a2 l2 c2 a3 l3 c3 x4 x5 K w := by kernel_rfl
theorem calls16 (s1 : ByteArray) (a2 : Option Addr) (l2 : Nat) (c2 : Nat) (a3 : Option Addr) (l3 : Nat) (c3 : Nat) (x4 : Int) (x5 : Int) (K : Bool → World → Prop) (w : World) (h : N16 s1 a2 l2 c2 a3 l3 c3 x4 x5 K w) : Calls Try.prog 16 #[(.agg #[(.string s1), (.slice a2 l2 c2), (.slice a3 l3 c3), (.int .i64 x4)]), (.int .i64 x5)] w fun en w' => ∃ (p65 : Bool), en = .returned (.bool p65) ∧ K p65 w' :=
  have e : (fun en w' => ExShs [(.one .bool)] fun vs => en = .returned (tupled vs) ∧ ap [(.one .bool)] K vs fun p => p w') = (fun (en : Ending) (w' : World) => ∃ (p65 : Bool), en = .returned (.bool p65) ∧ K p65 w') := by kernel_rfl
  e ▸ fn_sound tabOk mixed Try.func16 (by kernel_rfl : Try.f16.body = some code16) ann16 [(.agg #[(.string s1), (.slice a2 l2 c2), (.slice a3 l3 c3), (.int .i64 x4)]), (.int .i64 x5)] [(.one .bool)] K w (by kernel_rfl) ((wp16 s1 a2 l2 c2 a3 l3 c3 x4 x5 K w).symm ▸ h)
end Go.Proofs.Ytggfnakhmjkoeaa

namespace Go.Proofs.Ytggfnakhmjkoeaa
open Go Go.V Go.Proofs
open Go.RowKit (Below)
/-! manystrand/manystrandref06.ValidProp -/
def N17 (s1 : ByteArray) (a2 : Option Addr) (l2 : Nat) (c2 : Nat) (a3 : Option Addr) (l3 : Nat) (c3 : Nat) (x4 : Int) (x5 : Int) (K : Bool → World → Prop) (w : World) : Prop :=
  AllocK w (#[(.string s1), (.slice a2 l2 c2), (.slice a3 l3 c3), (.int .i64 x4)]) 24 fun b6 w7 =>
  ∃ (J8 : Int → Int → Int → World → Prop),
  (∀ (w9 : World) (x10 : Int) (x11 : Int) (x12 : Int), J8 x10 x11 x12 w9 →
    BoolK (decide ((x5 : Int) > 40))
    (K false w9)
    (BoolK (decide ((x10 : Int) < 1))
      (K false w9)
      (BoolK (decide ((x10 : Int) > 40))
        (K false w9)
        (∃ (a13 : Option Addr) (l13 : Nat) (c13 : Nat), w9.cell? (b6.add 1) = some (.slice a13 l13 c13) ∧
          (BoolK (((l13 : Nat) : Int) != x10)
            (K false w9)
            (∃ (a14 : Option Addr) (l14 : Nat) (c14 : Nat), w9.cell? (b6.add 2) = some (.slice a14 l14 c14) ∧
              (BoolK (decide (((l14 : Nat) : Int) < x11))
                (K false w9)
                (∃ (a15 : Option Addr) (l15 : Nat) (c15 : Nat), w9.cell? (b6.add 2) = some (.slice a15 l15 c15) ∧
                  (BoolK (decide (((l15 : Nat) : Int) > x12))
                    (K false w9)
                    (∃ (I16 : Int → World → Prop) (μ17 : Int → World → Nat),
                      (I16 0 w9 ∧ True) ∧
                      ∀ (w18 : World) (x19 : Int), I16 x19 w18 →
                      ∃ (a20 : Option Addr) (l20 : Nat) (c20 : Nat), w18.cell? (b6.add 1) = some (.slice a20 l20 c20) ∧
                      (BoolK (decide ((x19 : Int) < (l20 : Nat)))
                        (∃ (a21 : Option Addr) (l21 : Nat) (c21 : Nat), w18.cell? (b6.add 1) = some (.slice a21 l21 c21) ∧
                          ((0 ≤ (x19 : Int) ∧ (x19 : Int) < (l21 : Nat)) ∧
                            AddrK a21 fun b22 =>
                            ∃ (x23 : Int), w18.cell? (b22.add ((x19 : Int).toNat * 1)) = some (.int .i64 x23) ∧
                            (BoolK (decide ((x23 : Int) < 0))
                              (K false w18)
                              (∃ (a24 : Option Addr) (l24 : Nat) (c24 : Nat), w18.cell? (b6.add 1) = some (.slice a24 l24 c24) ∧
                                ((0 ≤ (x19 : Int) ∧ (x19 : Int) < (l24 : Nat)) ∧
                                  AddrK a24 fun b25 =>
                                  ∃ (x26 : Int), w18.cell? (b25.add ((x19 : Int).toNat * 1)) = some (.int .i64 x26) ∧
                                  (BoolK (decide ((x26 : Int) ≥ x5))
                                    (K false w18)
                                    (I16 (IntKind.wrap .i64 (x19 + 1)) w18 ∧ μ17 (IntKind.wrap .i64 (x19 + 1)) w18 < μ17 x19 w18)))))))
                        (∃ (I27 : Int → World → Prop) (μ28 : Int → World → Nat),
                          (I27 0 w18 ∧ True) ∧
                          ∀ (w29 : World) (x30 : Int), I27 x30 w29 →
                          ∃ (a31 : Option Addr) (l31 : Nat) (c31 : Nat), w29.cell? (b6.add 2) = some (.slice a31 l31 c31) ∧
                          (BoolK (decide ((x30 : Int) < (l31 : Nat)))
                            (∃ (a32 : Option Addr) (l32 : Nat) (c32 : Nat), w29.cell? (b6.add 2) = some (.slice a32 l32 c32) ∧
                              ((0 ≤ (x30 : Int) ∧ (x30 : Int) < (l32 : Nat)) ∧
                                AddrK a32 fun b33 =>
                                ∃ (x34 : Int), w29.cell? (b33.add ((x30 : Int).toNat * 1)) = some (.int .i64 x34) ∧
                                (BoolK (decide ((x34 : Int) < -1000000))
                                  (K false w29)
                                  (BoolK (decide ((x34 : Int) > 1000000))
                                    (K false w29)
                                    (BoolK ((x34 : Int) == 0)
                                      (∃ (s35 : ByteArray), w29.cell? b6 = some (.string s35) ∧
                                        (BoolK ((s35 : ByteArray).toList == ((⟨#[115, 117, 109]⟩ : ByteArray) : ByteArray).toList)
                                          (K false w29)
                                          (∃ (s36 : ByteArray), w29.cell? b6 = some (.string s36) ∧
                                            (BoolK ((s36 : ByteArray).toList == ((⟨#[109, 111, 115, 116]⟩ : ByteArray) : ByteArray).toList)
                                              (K false w29)
                                              (BoolK (decide ((x34 : Int) < 0))
                                                (∃ (s37 : ByteArray), w29.cell? b6 = some (.string s37) ∧
                                                  (BoolK ((s37 : ByteArray).toList == ((⟨#[97, 112, 97, 114, 116]⟩ : ByteArray) : ByteArray).toList)
                                                    (K false w29)
                                                    (I27 (IntKind.wrap .i64 (x30 + 1)) w29 ∧ μ28 (IntKind.wrap .i64 (x30 + 1)) w29 < μ28 x30 w29)))
                                                (I27 (IntKind.wrap .i64 (x30 + 1)) w29 ∧ μ28 (IntKind.wrap .i64 (x30 + 1)) w29 < μ28 x30 w29))))))
                                      (BoolK (decide ((x34 : Int) < 0))
                                        (∃ (s38 : ByteArray), w29.cell? b6 = some (.string s38) ∧
                                          (BoolK ((s38 : ByteArray).toList == ((⟨#[97, 112, 97, 114, 116]⟩ : ByteArray) : ByteArray).toList)
                                            (K false w29)
                                            (I27 (IntKind.wrap .i64 (x30 + 1)) w29 ∧ μ28 (IntKind.wrap .i64 (x30 + 1)) w29 < μ28 x30 w29)))
                                        (I27 (IntKind.wrap .i64 (x30 + 1)) w29 ∧ μ28 (IntKind.wrap .i64 (x30 + 1)) w29 < μ28 x30 w29)))))))
                            (∃ (J39 : Bool → World → Prop),
                              (∀ (w40 : World) (p41 : Bool), J39 p41 w40 →
                                BoolK (!p41)
                                (K true w40)
                                (∃ (x42 : Int), w40.cell? (b6.add 3) = some (.int .i64 x42) ∧
                                  (BoolK (decide ((x42 : Int) ≥ -1000000))
                                    (∃ (x43 : Int), w40.cell? (b6.add 3) = some (.int .i64 x43) ∧
                                      (K (decide ((x43 : Int) ≤ 1000000)) w40))
                                    (K false w40)))) ∧
                              (∃ (s44 : ByteArray), w29.cell? b6 = some (.string s44) ∧
                                (BoolK ((s44 : ByteArray).toList == ((⟨#[115, 117, 109]⟩ : ByteArray) : ByteArray).toList)
                                  (J39 true w29)
                                  (∃ (s45 : ByteArray), w29.cell? b6 = some (.string s45) ∧
                                    (BoolK ((s45 : ByteArray).toList == ((⟨#[109, 111, 115, 116]⟩ : ByteArray) : ByteArray).toList)
                                      (J39 true w29)
                                      (∃ (s46 : ByteArray), w29.cell? b6 = some (.string s46) ∧
                                        (BoolK ((s46 : ByteArray).toList == ((⟨#[117, 110, 108, 105, 107, 101]⟩ : ByteArray) : ByteArray).toList)
                                          (J39 true w29)
                                          (∃ (s47 : ByteArray), w29.cell? b6 = some (.string s47) ∧
                                            (J39 ((s47 : ByteArray).toList == ((⟨#[114, 101, 105, 102, 121]⟩ : ByteArray) : ByteArray).toList) w29)))))))))))))))))))))) ∧
  (∃ (s48 : ByteArray), w7.cell? b6 = some (.string s48) ∧
    (∃ (J49 : Bool → World → Prop),
      (∀ (w50 : World) (p51 : Bool), J49 p51 w50 →
        BoolK p51
        (DrewK w50 fun w52 =>
          ∃ (a53 : Option Addr) (l53 : Nat) (c53 : Nat), w52.cell? (b6.add 1) = some (.slice a53 l53 c53) ∧
          (∃ (a54 : Option Addr) (l54 : Nat) (c54 : Nat), w52.cell? (b6.add 1) = some (.slice a54 l54 c54) ∧
            (∃ (a55 : Option Addr) (l55 : Nat) (c55 : Nat), w52.cell? (b6.add 1) = some (.slice a55 l55 c55) ∧
              (J8 (l53 : Nat) (l54 : Nat) (l55 : Nat) w52))))
        (BoolK ((s48 : ByteArray).toList == ((⟨#[100, 105, 115, 116, 105, 110, 99, 116]⟩ : ByteArray) : ByteArray).toList)
          (∃ (a56 : Option Addr) (l56 : Nat) (c56 : Nat), w50.cell? (b6.add 1) = some (.slice a56 l56 c56) ∧
            (J8 (l56 : Nat) 0 0 w50))
          (BoolK ((s48 : ByteArray).toList == ((⟨#[117, 110, 108, 105, 107, 101]⟩ : ByteArray) : ByteArray).toList)
            (J8 2 0 0 w50)
            (∃ (J57 : Bool → World → Prop),
              (∀ (w58 : World) (p59 : Bool), J57 p59 w58 →
                BoolK p59
                (J8 3 0 0 w58)
                (BoolK ((s48 : ByteArray).toList == ((⟨#[101, 108, 101, 109, 101, 110, 116]⟩ : ByteArray) : ByteArray).toList)
                  (J8 2 1 40 w58)
                  (BoolK ((s48 : ByteArray).toList == ((⟨#[97, 112, 97, 114, 116]⟩ : ByteArray) : ByteArray).toList)
                    (J8 2 2 2 w58)
                    (K false w58)))) ∧
              (BoolK ((s48 : ByteArray).toList == ((⟨#[112, 114, 111, 100, 117, 99, 116]⟩ : ByteArray) : ByteArray).toList)
                (J57 ((s48 : ByteArray).toList == ((⟨#[112, 114, 111, 100, 117, 99, 116]⟩ : ByteArray) : ByteArray).toList) w50)
                (BoolK ((s48 : ByteArray).toList == ((⟨#[109, 97, 120]⟩ : ByteArray) : ByteArray).toList)
                  (J57 ((s48 : ByteArray).toList == ((⟨#[109, 97, 120]⟩ : ByteArray) : ByteArray).toList) w50)
                  (J57 ((s48 : ByteArray).toList == ((⟨#[114, 101, 105, 102, 121]⟩ : ByteArray) : ByteArray).toList) w50))))))) ∧
      (BoolK ((s48 : ByteArray).toList == ((⟨#[115, 117, 109]⟩ : ByteArray) : ByteArray).toList)
        (J49 ((s48 : ByteArray).toList == ((⟨#[115, 117, 109]⟩ : ByteArray) : ByteArray).toList) w7)
        (J49 ((s48 : ByteArray).toList == ((⟨#[109, 111, 115, 116]⟩ : ByteArray) : ByteArray).toList) w7))))
def ann17 : Ann := (.two .nil (.two .nil (.cut [(5, (.one (.int .i64))), (6, (.one (.int .i64))), (7, (.one (.int .i64)))] [1, 2] (.two .nil (.one (.cut [(14, (.one .bool))] [1, 2, 6, 7, 13] (.two .nil (.two .nil .nil)) (.two (.any 12 (.take 0 (.take 1 (.take 2 (.take 3 (.take 4 (.take 5 (.take 6 (.take 7 (.take 8 (.take 9 (.take 10 (.take 11 .done))))))))))))) (.two .nil (.two .nil (.two .nil (.two .nil (.cut [(33, (.one .bool))] [1, 2, 6, 7, 13] (.two .nil (.two .nil (.two .nil (.two .nil .nil)))) (.two .nil (.two .nil (.two .nil (.two .nil (.two .nil (.two .nil .nil))))))))))))))) (.two (.two .nil (.two (.two .nil .nil) .nil)) (.two (.two .nil (.one (.loop [(8, (.one (.int .i64)))] [1, 2] (.two (.two .nil (.two .nil .nil)) (.two (.one (.two .nil (.two (.two .nil .nil) .nil))) .nil))))) (.two (.two .nil (.one (.loop [(9, (.one (.int .i64)))] [2] (.two (.two .nil (.two .nil .nil)) (.two (.one (.two .nil (.two .nil (.two (.two .nil .nil) .nil)))) .nil))))) (.cut [(11, (.one .bool))] [2] .nil (.two .nil .nil))))))))
noncomputable def code17 : Code := match Try.f17.body with | some c => c | none => .skip
theorem wp17 (s1 : ByteArray) (a2 : Option Addr) (l2 : Nat) (c2 : Nat) (a3 : Option Addr) (l3 : Nat) (c3 : Nat) (x4 : Int) (x5 : Int) (K : Bool → World → Prop) (w : World) : WP Try.prog tab code17 ann17 (fnQ tab Try.f17.results.toList [(.one .bool)] K) (argE 0 [(.agg #[(.string s1), (.slice a2 l2 c2), (.slice a3 l3 c3), (.int .i64 x4)]), (.int .i64 x5)]) w = N17 s1 a2 l2 c2 a3 l3 c3 x4 x5 K w := by kernel_rfl
theorem calls17 (s1 : ByteArray) (a2 : Option Addr) (l2 : Nat) (c2 : Nat) (a3 : Option Addr) (l3 : Nat) (c3 : Nat) (x4 : Int) (x5 : Int) (K : Bool → World → Prop) (w : World) (h : N17 s1 a2 l2 c2 a3 l3 c3 x4 x5 K w) : Calls Try.prog 17 #[(.agg #[(.string s1), (.slice a2 l2 c2), (.slice a3 l3 c3), (.int .i64 x4)]), (.int .i64 x5)] w fun en w' => ∃ (p60 : Bool), en = .returned (.bool p60) ∧ K p60 w' :=
  have e : (fun en w' => ExShs [(.one .bool)] fun vs => en = .returned (tupled vs) ∧ ap [(.one .bool)] K vs fun p => p w') = (fun (en : Ending) (w' : World) => ∃ (p60 : Bool), en = .returned (.bool p60) ∧ K p60 w') := by kernel_rfl
  e ▸ fn_sound tabOk mixed Try.func17 (by kernel_rfl : Try.f17.body = some code17) ann17 [(.agg #[(.string s1), (.slice a2 l2 c2), (.slice a3 l3 c3), (.int .i64 x4)]), (.int .i64 x5)] [(.one .bool)] K w (by kernel_rfl) ((wp17 s1 a2 l2 c2 a3 l3 c3 x4 x5 K w).symm ▸ h)
end Go.Proofs.Ytggfnakhmjkoeaa

namespace Go.Proofs.Ytggfnakhmjkoeaa
open Go Go.V Go.Proofs
open Go.RowKit (Below)

theorem BoolK_true {X Y : Prop} : BoolK true X Y = X := rfl
theorem BoolK_false {X Y : Prop} : BoolK false X Y = Y := rfl

inductive Kd | sum | most | unlike | distinct | product | max | element | reify | apart | other
  deriving DecidableEq
abbrev kb (s : ByteArray) (l : Array UInt8) : Bool := s.toList == (⟨l⟩ : ByteArray).toList
def kdOf (s : ByteArray) : Kd :=
  if kb s #[115, 117, 109] then .sum else if kb s #[109, 111, 115, 116] then .most else if kb s #[117, 110, 108, 105, 107, 101] then .unlike
  else if kb s #[100, 105, 115, 116, 105, 110, 99, 116] then .distinct else if kb s #[112, 114, 111, 100, 117, 99, 116] then .product else if kb s #[109, 97, 120] then .max
  else if kb s #[101, 108, 101, 109, 101, 110, 116] then .element else if kb s #[114, 101, 105, 102, 121] then .reify else if kb s #[97, 112, 97, 114, 116] then .apart else .other

theorem ba_loop (s : ByteArray) : ∀ (n i : Nat) (r : List UInt8), s.size - i = n → ByteArray.toList.loop s i r = r.reverse ++ s.data.toList.drop i
  | 0, i, r, h => by
    unfold ByteArray.toList.loop
    have hs : s.size = s.data.toList.length := by rw [Array.length_toList]; rfl
    rw [if_neg (by omega), List.drop_of_length_le (by omega), List.append_nil]
  | n + 1, i, r, h => by
    unfold ByteArray.toList.loop
    have hs : s.size = s.data.toList.length := by rw [Array.length_toList]; rfl
    rw [if_pos (by omega), ba_loop s n (i + 1) _ (by omega), List.drop_eq_getElem_cons (i := i) (by omega), List.reverse_cons, List.append_assoc]
    have hi : i < s.data.size := by rw [← Array.length_toList]; omega
    have e : s.get! i = s.data.toList[i]'(by rw [Array.length_toList]; exact hi) := by
      show s.data[i]! = _
      rw [getElem!_pos s.data i hi, Array.getElem_toList]
    rw [e]; rfl
theorem ba_toList (s : ByteArray) : s.toList = s.data.toList := by
  unfold ByteArray.toList
  rw [ba_loop s _ 0 [] rfl]; simp
theorem kb_dec {a b : Array UInt8} (h : (a.toList == b.toList) = false) : kb ⟨a⟩ b = false := by
  unfold kb; rw [ba_toList, ba_toList]; exact h
theorem kb_other {s : ByteArray} {a b : Array UInt8} (h : kb s a = true) (hne : kb ⟨a⟩ b = false) : kb s b = false := by
  have := eq_of_beq h
  unfold kb at hne ⊢; rw [this]; exact hne

theorem kd_all (s : ByteArray) :
    kb s #[115, 117, 109] = decide (kdOf s = .sum) ∧ kb s #[109, 111, 115, 116] = decide (kdOf s = .most) ∧ kb s #[117, 110, 108, 105, 107, 101] = decide (kdOf s = .unlike) ∧
    kb s #[100, 105, 115, 116, 105, 110, 99, 116] = decide (kdOf s = .distinct) ∧ kb s #[112, 114, 111, 100, 117, 99, 116] = decide (kdOf s = .product) ∧ kb s #[109, 97, 120] = decide (kdOf s = .max) ∧
    kb s #[101, 108, 101, 109, 101, 110, 116] = decide (kdOf s = .element) ∧ kb s #[114, 101, 105, 102, 121] = decide (kdOf s = .reify) ∧ kb s #[97, 112, 97, 114, 116] = decide (kdOf s = .apart) := by
  unfold kdOf
  split
  · rename_i h; refine ⟨h, ?_, ?_, ?_, ?_, ?_, ?_, ?_, ?_⟩ <;> exact kb_other h (kb_dec (by decide))
  split
  · rename_i g1 h; refine ⟨by simpa using g1, h, ?_, ?_, ?_, ?_, ?_, ?_, ?_⟩ <;> exact kb_other h (kb_dec (by decide))
  split
  · rename_i g1 g2 h; refine ⟨by simpa using g1, by simpa using g2, h, ?_, ?_, ?_, ?_, ?_, ?_⟩ <;> exact kb_other h (kb_dec (by decide))
  split
  · rename_i g1 g2 g3 h; refine ⟨by simpa using g1, by simpa using g2, by simpa using g3, h, ?_, ?_, ?_, ?_, ?_⟩ <;> exact kb_other h (kb_dec (by decide))
  split
  · rename_i g1 g2 g3 g4 h; refine ⟨by simpa using g1, by simpa using g2, by simpa using g3, by simpa using g4, h, ?_, ?_, ?_, ?_⟩ <;> exact kb_other h (kb_dec (by decide))
  split
  · rename_i g1 g2 g3 g4 g5 h; refine ⟨by simpa using g1, by simpa using g2, by simpa using g3, by simpa using g4, by simpa using g5, h, ?_, ?_, ?_⟩ <;> exact kb_other h (kb_dec (by decide))
  split
  · rename_i g1 g2 g3 g4 g5 g6 h; refine ⟨by simpa using g1, by simpa using g2, by simpa using g3, by simpa using g4, by simpa using g5, by simpa using g6, h, ?_, ?_⟩ <;> exact kb_other h (kb_dec (by decide))
  split
  · rename_i g1 g2 g3 g4 g5 g6 g7 h; refine ⟨by simpa using g1, by simpa using g2, by simpa using g3, by simpa using g4, by simpa using g5, by simpa using g6, by simpa using g7, h, ?_⟩; exact kb_other h (kb_dec (by decide))
  split
  · rename_i g1 g2 g3 g4 g5 g6 g7 g8 h; exact ⟨by simpa using g1, by simpa using g2, by simpa using g3, by simpa using g4, by simpa using g5, by simpa using g6, by simpa using g7, by simpa using g8, h⟩
  · rename_i g1 g2 g3 g4 g5 g6 g7 g8 g9; exact ⟨by simpa using g1, by simpa using g2, by simpa using g3, by simpa using g4, by simpa using g5, by simpa using g6, by simpa using g7, by simpa using g8, by simpa using g9⟩

/-- a propagator -/
structure PropS where
  kind : ByteArray
  vars : List Int
  coefs : List Int
  n : Int
/-- it stands in memory -/
structure PropAt (w : World) (s : ByteArray) (a2 : Option Addr) (l2 : Nat) (a3 : Option Addr) (l3 : Nat) (x4 : Int) (p : PropS) : Prop where
  kind : p.kind = s
  vars : Ints w a2 l2 p.vars
  coefs : Ints w a3 l3 p.coefs
  n : p.n = x4
  len2 : p.vars.length ≤ 9223372036854775807
  len3 : p.coefs.length ≤ 9223372036854775807
theorem PropAt.ext {w w' : World} {s : ByteArray} {a2 : Option Addr} {l2 : Nat} {a3 : Option Addr} {l3 : Nat} {x4 : Int} {p : PropS} (h : PropAt w s a2 l2 a3 l3 x4 p) (k : Ext w w') : PropAt w' s a2 l2 a3 l3 x4 p :=
  ⟨h.kind, h.vars.ext RInt.mono k, h.coefs.ext RInt.mono k, h.n, h.len2, h.len3⟩

def rng (c : Int) : Bool := decide (-1000000 ≤ c ∧ c ≤ 1000000)
/-- what a propagator of a kind must be -/
def kindB : Kd → (v c : Nat) → List Int → Int → Bool
  | .sum, v, c, l, n => decide (1 ≤ v ∧ v ≤ 40) && decide (c = v) && l.all (fun x => !(x == 0)) && l.all rng && rng n
  | .most, v, c, l, n => decide (1 ≤ v ∧ v ≤ 40) && decide (c = v) && l.all (fun x => !(x == 0)) && l.all rng && rng n
  | .unlike, v, c, _, n => decide (v = 2) && decide (c = 0) && rng n
  | .distinct, v, c, _, _ => decide (1 ≤ v ∧ v ≤ 40) && decide (c = 0)
  | .product, v, c, _, _ => decide (v = 3) && decide (c = 0)
  | .max, v, c, _, _ => decide (v = 3) && decide (c = 0)
  | .element, v, c, l, _ => decide (v = 2) && decide (1 ≤ c ∧ c ≤ 40) && l.all rng
  | .reify, v, c, _, n => decide (v = 3) && decide (c = 0) && rng n
  | .apart, v, c, l, _ => decide (v = 2) && decide (c = 2) && l.all (fun x => decide (0 ≤ x ∧ x ≤ 1000000))
  | .other, _, _, _, _ => false
def propB (p : PropS) (n : Int) : Bool :=
  decide (0 ≤ n ∧ n ≤ 40) && p.vars.all (fun x => decide (0 ≤ x ∧ x < n)) && kindB (kdOf p.kind) p.vars.length p.coefs.length p.coefs p.n

theorem cell4 {w : World} {b t : Nat} {v0 v1 v2 v3 : Value} (h : Blk w b #[v0, v1, v2, v3] t) :
    w.cell? ⟨b, 0, none⟩ = some v0 ∧ w.cell? ⟨b, 1, none⟩ = some v1 ∧ w.cell? ⟨b, 2, none⟩ = some v2 ∧ w.cell? ⟨b, 3, none⟩ = some v3 :=
  ⟨by rw [h.cell]; rfl, by rw [h.cell]; rfl, by rw [h.cell]; rfl, by rw [h.cell]; rfl⟩

/-- within(-MaxCoef, n) -/
theorem within1 (w : World) (x : Int) (w0 : World) (hB : Ext w0 w) (K : Ending → World → Prop) (hK : ∀ w', Ext w0 w' → K (.returned (.bool (rng x))) w') :
    AllocK w #[.int .i64 x] 3 fun b w1 => Calls Try.prog 55 #[.int .i64 (-1000000), .slice (some b) 1 1] w1 K := by
  refine AllocK.mk fun b w1 hb hblk hx => ?_
  have hI : Ints w1 (some ⟨b, 0, none⟩) 1 [x] := ⟨rfl, .inr ⟨b, 0, rfl, fun i y hi => by
    have : i = 0 := by
      have := (List.getElem?_eq_some_iff.1 hi).1
      simp at this; omega
    subst this
    simp at hi; subst hi
    show w1.cell? ⟨b, 0 + 0 * 1 + 0, none⟩ = _
    rw [hblk.cell]; rfl⟩⟩
  refine (c55 w1 (-1000000) _ 1 1 [x] hI (by simp)).mono ?_
  rintro en w' ⟨p, rfl, rfl, hx'⟩
  have e : ([x].all fun v => decide (-1000000 ≤ v ∧ v ≤ 1000000)) = rng x := by simp [rng]
  rw [e]
  exact hK w' ((hB.trans hx).trans hx')

theorem c16 (w : World) (s : ByteArray) (a2 : Option Addr) (l2 c2 : Nat) (a3 : Option Addr) (l3 c3 : Nat) (x4 : Int) (n : Int) (p : PropS) (h : PropAt w s a2 l2 a3 l3 x4 p) :
    Calls Try.prog 16 #[.agg #[.string s, .slice a2 l2 c2, .slice a3 l3 c3, .int .i64 x4], .int .i64 n] w fun en w' => ∃ r, en = .returned (.bool r) ∧ (r = propB p n ∧ Ext w w') := by
  obtain ⟨pk, pv, pc, pn⟩ := p
  obtain ⟨rfl, hv, hc, rfl, hl2, hl3⟩ := h
  simp only at hv hc hl2 hl3
  refine calls16 _ _ _ _ _ _ _ _ _ _ w ?_
  refine AllocK.mk fun b w7 hb hblk hx => ?_
  have hcell := fun (w' : World) (k : Ext w7 w') => cell4 (hblk.ext k)
  have e2 := hv.1
  have e3 := hc.1
  refine BoolK.mk (fun t => ?_) (fun t => ?_)
  · simp at t; exact ⟨by rw [propB, decide_eq_false (by omega)]; rfl, hx⟩
  simp at t
  refine BoolK.mk (fun t1 => ?_) (fun t1 => ?_)
  · simp at t1; exact ⟨by rw [propB, decide_eq_false (by omega)]; rfl, hx⟩
  simp at t1
  simp only [add_mk, Nat.zero_add]
  refine ⟨_, _, _, (hcell w7 (Ext.refl _)).2.1, ?_⟩
  refine ⟨fun i w' => ∃ k : Nat, i = k ∧ k ≤ pv.length ∧ (pv.take k).all (fun x => decide (0 ≤ x ∧ x < n)) = true ∧ Ext w7 w', fun i _ => pv.length - i.toNat, ⟨⟨0, rfl, by omega, rfl, Ext.refl _⟩, trivial⟩, ?_⟩
  rintro w11 i ⟨k, rfl, hk, hall, hB⟩
  refine BoolK.mk (fun hlt => ?_) (fun hge => ?_)
  · have hlt : k < pv.length := by simp at hlt; omega
    obtain ⟨b1, o1, rfl, h0⟩ := intAt hv w11 (hx.trans hB) hlt
    refine ⟨by omega, ?_⟩
    simp only [AddrK, Int.toNat_natCast, add_mk, Nat.mul_one]
    refine ⟨_, h0, BoolK.mk (fun t => ?_) (fun t => ?_)⟩
    · simp at t; exact ⟨by rw [propB, all_false hlt (decide_eq_false (by omega)), Bool.and_false]; rfl, hx.trans hB⟩
    simp at t
    refine BoolK.mk (fun t2 => ?_) (fun t2 => ?_)
    · simp at t2; exact ⟨by rw [propB, all_false hlt (decide_eq_false (by omega)), Bool.and_false]; rfl, hx.trans hB⟩
    simp at t2
    rw [wrap_succ (by omega)]
    exact ⟨⟨k + 1, rfl, by omega, by rw [all_take hlt, hall, decide_eq_true (by omega)]; rfl, hB⟩, by simp; omega⟩
  have : k = pv.length := by simp at hge; omega
  subst this
  rw [List.take_length] at hall
  have hspec : propB ⟨pk, pv, pc, pn⟩ n = kindB (kdOf pk) pv.length pc.length pc pn := by
    rw [propB, decide_eq_true (by omega), hall]; rfl
  rw [hspec]
  clear hspec
  refine DrewK.mk fun w15 hd15 => ?_
  have hB15 := hB.trans hd15
  clear hall hB hd15
  have hC := hcell w15 hB15
  refine ⟨_, _, _, hC.2.1, _, _, _, hC.2.2.1, ?_⟩
  refine ⟨fun q w19 => w19 = w15 ∧ q = decide (1 ≤ pv.length ∧ pv.length ≤ 40), ?_, ?_⟩
  · rintro w19 q ⟨rfl, rfl⟩
    refine ⟨_, hC.1, ?_⟩
    obtain ⟨k0, k1, k2, k3, k4, k5, k6, k7, k8⟩ := kd_all pk
    refine ⟨fun q w23 => w23 = w19 ∧ q = (decide (kdOf pk = .sum) || decide (kdOf pk = .most)), ?_, ?_⟩
    · rintro w23 q ⟨rfl, rfl⟩
      refine BoolK.mk (fun t => ?_) (fun t => ?_)
      · -- sum, most
        have hkb : kindB (kdOf pk) pv.length pc.length pc pn = (decide (1 ≤ pv.length ∧ pv.length ≤ 40) && decide (pc.length = pv.length) && pc.all (fun x => !(x == 0)) && pc.all rng && rng pn) := by
          simp at t; rcases t with t | t <;> rw [t] <;> rfl
        rw [hkb]
        refine ⟨_, _, _, hC.2.2.1, ?_⟩
        refine ⟨fun i w' => ∃ k : Nat, i = k ∧ k ≤ pc.length ∧ (pc.take k).all (fun x => !(x == 0)) = true ∧ Ext w7 w', fun i _ => pc.length - i.toNat, ⟨⟨0, rfl, by omega, rfl, hB15⟩, trivial⟩, ?_⟩
        rintro w28 i ⟨k, rfl, hk, hall, hB⟩
        refine BoolK.mk (fun hlt => ?_) (fun hge => ?_)
        · have hlt : k < pc.length := by simp at hlt; omega
          obtain ⟨b1, o1, rfl, h0⟩ := intAt hc w28 (hx.trans hB) hlt
          refine ⟨by omega, ?_⟩
          simp only [AddrK, Int.toNat_natCast, add_mk, Nat.mul_one]
          refine ⟨_, h0, BoolK.mk (fun t => ?_) (fun t => ?_)⟩
          · exact ⟨by rw [all_false (p := fun x => !(x == 0)) hlt (by rw [t]; rfl)]; simp, hx.trans hB⟩
          rw [wrap_succ (by omega)]
          exact ⟨⟨k + 1, rfl, by omega, by rw [all_take hlt, hall, t]; rfl, hB⟩, by simp; omega⟩
        have : k = pc.length := by simp at hge; omega
        subst this
        rw [List.take_length] at hall
        rw [hall]
        refine BoolK.mk (fun t1 => ?_) (fun t1 => ?_)
        · refine BoolK.mk (fun t2 => ?_) (fun t2 => ?_)
          · refine ⟨_, _, _, (hcell _ hB).2.2.1, ?_⟩
            refine (c55 w28 (-1000000) _ _ _ pc (hc.ext RInt.mono (hx.trans hB)) hl3).mono ?_
            rintro en w34 ⟨r, rfl, rfl, hx34⟩
            have e5 : (pc.all fun v => decide (-1000000 ≤ v ∧ v ≤ 1000000)) = pc.all rng := rfl
            rw [e5]
            refine ⟨_, rfl, BoolK.mk (fun t3 => ?_) (fun t3 => ?_)⟩
            · refine ⟨_, (hcell _ (hB.trans hx34)).2.2.2, within1 _ _ w ((hx.trans hB).trans hx34) _ fun w' hw' => ⟨_, rfl, ?_, hw'⟩⟩
              simp at t2
              rw [t1, t3, decide_eq_true (show pc.length = pv.length by omega)]; rfl
            · exact ⟨by rw [t3]; simp, (hx.trans hB).trans hx34⟩
          · simp at t2
            exact ⟨by rw [decide_eq_false (show ¬ pc.length = pv.length by omega)]; simp, hx.trans hB⟩
        · exact ⟨by rw [t1]; rfl, hx.trans hB⟩
      · have k2' : (pk.toList == (⟨#[117, 110, 108, 105, 107, 101]⟩ : ByteArray).toList) = _ := k2
        have k3' : (pk.toList == (⟨#[100, 105, 115, 116, 105, 110, 99, 116]⟩ : ByteArray).toList) = _ := k3
        have k4' : (pk.toList == (⟨#[112, 114, 111, 100, 117, 99, 116]⟩ : ByteArray).toList) = _ := k4
        have k5' : (pk.toList == (⟨#[109, 97, 120]⟩ : ByteArray).toList) = _ := k5
        have k6' : (pk.toList == (⟨#[101, 108, 101, 109, 101, 110, 116]⟩ : ByteArray).toList) = _ := k6
        have k7' : (pk.toList == (⟨#[114, 101, 105, 102, 121]⟩ : ByteArray).toList) = _ := k7
        have k8' : (pk.toList == (⟨#[97, 112, 97, 114, 116]⟩ : ByteArray).toList) = _ := k8
        rw [k2', k3', k4', k5', k6', k7', k8']
        have hx15 := hx.trans hB15
        clear k0 k1 k2 k3 k4 k5 k6 k7 k8 k2' k3' k4' k5' k6' k7' k8'
        -- unlike
        refine BoolK.mk (fun q => ?_) (fun q2 => ?_)
        · rw [of_decide_eq_true q, kindB]
          refine BoolK.mk (fun t1 => ?_) (fun t1 => ?_)
          · refine BoolK.mk (fun t2 => ?_) (fun t2 => ?_)
            · refine ⟨_, hC.2.2.2, within1 _ _ w hx15 _ fun w' hw' => ⟨_, rfl, ?_, hw'⟩⟩
              simp at t1 t2
              rw [decide_eq_true (show pv.length = 2 by omega), decide_eq_true (show pc.length = 0 by omega)]; rfl
            · simp at t2
              exact ⟨by rw [decide_eq_false (show ¬ pc.length = 0 by omega)]; simp, hx15⟩
          · simp at t1
            exact ⟨by rw [decide_eq_false (show ¬ pv.length = 2 by omega)]; rfl, hx15⟩
        -- distinct
        refine BoolK.mk (fun q => ?_) (fun q3 => ?_)
        · rw [of_decide_eq_true q, kindB]
          refine BoolK.mk (fun t1 => ?_) (fun t1 => ?_)
          · refine ⟨?_, hx15⟩
            rw [t1, Bool.true_and, Bool.eq_iff_iff, beq_iff_eq, decide_eq_true_eq]; omega
          · exact ⟨by rw [t1]; rfl, hx15⟩
        refine ⟨fun q w49 => w49 = w23 ∧ q = (decide (kdOf pk = .product) || decide (kdOf pk = .max)), ?_, ?_⟩
        · rintro w49 q ⟨rfl, rfl⟩
          refine BoolK.mk (fun q => ?_) (fun q4 => ?_)
          · have hkb : kindB (kdOf pk) pv.length pc.length pc pn = (decide (pv.length = 3) && decide (pc.length = 0)) := by
              simp at q; rcases q with q | q <;> rw [q] <;> rfl
            rw [hkb]
            refine BoolK.mk (fun t1 => ?_) (fun t1 => ?_)
            · simp at t1
              refine ⟨?_, hx15⟩
              rw [decide_eq_true (show pv.length = 3 by omega), Bool.true_and, Bool.eq_iff_iff, beq_iff_eq, decide_eq_true_eq]; omega
            · simp at t1
              exact ⟨by rw [decide_eq_false (show ¬ pv.length = 3 by omega)]; rfl, hx15⟩
          -- element
          refine BoolK.mk (fun q => ?_) (fun q5 => ?_)
          · rw [of_decide_eq_true q, kindB]
            refine BoolK.mk (fun t1 => ?_) (fun t1 => ?_)
            · simp at t1
              rw [decide_eq_true (show pv.length = 2 by omega), Bool.true_and]
              refine BoolK.mk (fun t2 => ?_) (fun t2 => ?_)
              · refine BoolK.mk (fun t3 => ?_) (fun t3 => ?_)
                · refine ⟨_, _, _, hC.2.2.1, ?_⟩
                  refine (c55 w49 (-1000000) _ _ _ pc (hc.ext RInt.mono hx15) hl3).mono ?_
                  rintro en w34 ⟨r, rfl, rfl, hx34⟩
                  simp at t2 t3
                  refine ⟨_, rfl, ?_, hx15.trans hx34⟩
                  rw [decide_eq_true (show 1 ≤ pc.length ∧ pc.length ≤ 40 by omega), Bool.true_and]; rfl
                · simp at t3
                  exact ⟨by rw [decide_eq_false (by omega)]; rfl, hx15⟩
              · simp at t2
                exact ⟨by rw [decide_eq_false (by omega)]; rfl, hx15⟩
            · simp at t1
              exact ⟨by rw [decide_eq_false (show ¬ pv.length = 2 by omega)]; rfl, hx15⟩
          -- reify
          refine BoolK.mk (fun q => ?_) (fun q6 => ?_)
          · rw [of_decide_eq_true q, kindB]
            refine BoolK.mk (fun t1 => ?_) (fun t1 => ?_)
            · refine BoolK.mk (fun t2 => ?_) (fun t2 => ?_)
              · refine ⟨_, hC.2.2.2, within1 _ _ w hx15 _ fun w' hw' => ⟨_, rfl, ?_, hw'⟩⟩
                simp at t1 t2
                rw [decide_eq_true (show pv.length = 3 by omega), decide_eq_true (show pc.length = 0 by omega)]; rfl
              · simp at t2
                exact ⟨by rw [decide_eq_false (show ¬ pc.length = 0 by omega)]; simp, hx15⟩
            · simp at t1
              exact ⟨by rw [decide_eq_false (show ¬ pv.length = 3 by omega)]; rfl, hx15⟩
          -- apart
          refine BoolK.mk (fun q => ?_) (fun q7 => ?_)
          · rw [of_decide_eq_true q, kindB]
            refine BoolK.mk (fun t1 => ?_) (fun t1 => ?_)
            · refine BoolK.mk (fun t2 => ?_) (fun t2 => ?_)
              · refine ⟨_, _, _, hC.2.2.1, ?_⟩
                refine (c55 w49 0 _ _ _ pc (hc.ext RInt.mono hx15) hl3).mono ?_
                rintro en w34 ⟨r, rfl, rfl, hx34⟩
                simp at t1 t2
                refine ⟨_, rfl, ?_, hx15.trans hx34⟩
                rw [decide_eq_true (show pv.length = 2 by omega), decide_eq_true (show pc.length = 2 by omega)]; rfl
              · simp at t2
                exact ⟨by rw [decide_eq_false (show ¬ pc.length = 2 by omega)]; simp, hx15⟩
            · simp at t1
              exact ⟨by rw [decide_eq_false (show ¬ pv.length = 2 by omega)]; rfl, hx15⟩
          · have hk : kdOf pk = .other := by
              simp at t q2 q3 q4 q5 q6 q7
              cases hh : kdOf pk <;> simp_all
            rw [hk]
            exact ⟨rfl, hx15⟩
        · refine BoolK.mk (fun q => ?_) (fun q => ?_)
          · rw [q]; exact ⟨rfl, rfl⟩
          · rw [q]; exact ⟨rfl, rfl⟩
    · have k0' : (pk.toList == (⟨#[115, 117, 109]⟩ : ByteArray).toList) = _ := k0
      have k1' : (pk.toList == (⟨#[109, 111, 115, 116]⟩ : ByteArray).toList) = _ := k1
      rw [k0', k1']
      refine BoolK.mk (fun q => ?_) (fun q => ?_)
      · rw [q]; exact ⟨rfl, rfl⟩
      · rw [q]; exact ⟨rfl, rfl⟩
  · refine BoolK.mk (fun q => ?_) (fun q => ?_)
    · simp at q
      refine ⟨rfl, ?_⟩; rw [decide_eq_decide]; omega
    · simp at q
      refine ⟨rfl, ?_⟩; rw [eq_comm, decide_eq_false_iff_not]; omega
end Go.Proofs.Ytggfnakhmjkoeaa

namespace Go.Proofs.Ytggfnakhmjkoeaa
open Go Go.V Go.Proofs
open Go.RowKit (Below)

abbrev vnOf (k : Kd) (v : Nat) : Int := match k with
  | .sum | .most | .distinct => v | .unlike | .element | .apart => 2 | .product | .max | .reify => 3 | .other => 0
abbrev loOf (k : Kd) (v : Nat) : Int := match k with | .sum | .most => v | .element => 1 | .apart => 2 | _ => 0
abbrev hiOf (k : Kd) (v : Nat) : Int := match k with | .sum | .most => v | .element => 40 | .apart => 2 | _ => 0
def cok (k : Kd) (c : Int) : Bool := rng c && !(c == 0 && (decide (k = .sum) || decide (k = .most))) && !(decide (c < 0) && decide (k = .apart))
def named (k : Kd) : Bool := decide (k = .sum) || (decide (k = .most) || (decide (k = .unlike) || decide (k = .reify)))
/-- the reference's test, in its own order -/
def refB (p : PropS) (n : Int) : Bool :=
  !decide (kdOf p.kind = .other) && decide (n ≤ 40) && decide (1 ≤ vnOf (kdOf p.kind) p.vars.length ∧ vnOf (kdOf p.kind) p.vars.length ≤ 40) && decide ((p.vars.length : Int) = vnOf (kdOf p.kind) p.vars.length) &&
  decide (loOf (kdOf p.kind) p.vars.length ≤ p.coefs.length ∧ p.coefs.length ≤ hiOf (kdOf p.kind) p.vars.length) &&
  p.vars.all (fun x => decide (0 ≤ x ∧ x < n)) && p.coefs.all (cok (kdOf p.kind)) && (!named (kdOf p.kind) || rng p.n)

theorem all_pos {l : List Int} {n : Int} (h : l.all (fun x => decide (0 ≤ x ∧ x < n)) = true) (hl : 1 ≤ l.length) : 0 ≤ n := by
  cases l with
  | nil => simp at hl
  | cons x xs => simp at h; omega
theorem all_and2 {α : Type} (l : List α) (p q : α → Bool) : l.all (fun x => p x && q x) = (l.all p && l.all q) := by
  induction l with
  | nil => rfl
  | cons x xs ih => simp only [List.all_cons, ih]; cases p x <;> cases q x <;> cases xs.all p <;> simp
theorem refB_eq (p : PropS) (n : Int) : refB p n = propB p n := by
  obtain ⟨pk, pv, pc, pn⟩ := p
  unfold refB propB
  simp only
  generalize hk : kdOf pk = k
  rw [Bool.eq_iff_iff]
  have hnil : pc.length = 0 → pc.all (cok k) = true := fun h => by rw [List.length_eq_zero_iff.1 h]; rfl
  have hp := @all_pos pv n
  have hcok : ∀ {q : Int → Bool}, (∀ x, cok k x = q x) → pc.all (cok k) = pc.all q := fun h => by congr 1; funext x; exact h x
  generalize hA : pv.all (fun x => decide (0 ≤ x ∧ x < n)) = A at hp ⊢
  generalize pv.length = v at hp ⊢
  cases k
  case sum =>
    rw [hcok (q := fun x => !(x == 0) && rng x) (fun x => by simp [cok]; cases rng x <;> cases (x == 0) <;> rfl), all_and2]
    simp only [kindB, vnOf, loOf, hiOf, named]
    simp only [Bool.and_eq_true, decide_eq_true_eq, Bool.or_eq_true, Bool.not_eq_true', decide_eq_false_iff_not]
    constructor
    · rintro ⟨⟨⟨⟨⟨⟨⟨_, h1⟩, h2⟩, h3⟩, h4⟩, h5⟩, h6, h7⟩, h8⟩
      have := hp h5 (by omega)
      exact ⟨⟨⟨this, h1⟩, h5⟩, ⟨⟨⟨by omega, by omega⟩, h6⟩, h7⟩, by simpa using h8⟩
    · rintro ⟨⟨⟨h0, h1⟩, h5⟩, ⟨⟨⟨h2, h3⟩, h6⟩, h7⟩, h8⟩
      exact ⟨⟨⟨⟨⟨⟨⟨by simp, h1⟩, by omega⟩, trivial⟩, by omega⟩, h5⟩, h6, h7⟩, .inr h8⟩
  case most =>
    rw [hcok (q := fun x => !(x == 0) && rng x) (fun x => by simp [cok]; cases rng x <;> cases (x == 0) <;> rfl), all_and2]
    simp only [kindB, vnOf, loOf, hiOf, named]
    simp only [Bool.and_eq_true, decide_eq_true_eq, Bool.or_eq_true, Bool.not_eq_true', decide_eq_false_iff_not]
    constructor
    · rintro ⟨⟨⟨⟨⟨⟨⟨_, h1⟩, h2⟩, h3⟩, h4⟩, h5⟩, h6, h7⟩, h8⟩
      have := hp h5 (by omega)
      exact ⟨⟨⟨this, h1⟩, h5⟩, ⟨⟨⟨by omega, by omega⟩, h6⟩, h7⟩, by simpa using h8⟩
    · rintro ⟨⟨⟨h0, h1⟩, h5⟩, ⟨⟨⟨h2, h3⟩, h6⟩, h7⟩, h8⟩
      exact ⟨⟨⟨⟨⟨⟨⟨by simp, h1⟩, by omega⟩, trivial⟩, by omega⟩, h5⟩, h6, h7⟩, .inr h8⟩
  case element =>
    rw [hcok (q := rng) (fun x => by simp [cok])]
    simp only [kindB, vnOf, loOf, hiOf, named]
    simp only [Bool.and_eq_true, decide_eq_true_eq, Bool.or_eq_true, Bool.not_eq_true', decide_eq_false_iff_not]
    constructor
    · rintro ⟨⟨⟨⟨⟨⟨⟨_, h1⟩, h2⟩, h3⟩, h4⟩, h5⟩, h6⟩, h8⟩
      have := hp h5 (by omega)
      exact ⟨⟨⟨this, h1⟩, h5⟩, ⟨by omega, by omega⟩, h6⟩
    · rintro ⟨⟨⟨h0, h1⟩, h5⟩, ⟨h2, h3⟩, h6⟩
      exact ⟨⟨⟨⟨⟨⟨⟨by simp, h1⟩, by omega⟩, by omega⟩, by omega⟩, h5⟩, h6⟩, .inl (by simp)⟩
  case apart =>
    rw [hcok (q := fun x => decide (0 ≤ x ∧ x ≤ 1000000)) (fun x => by
      rw [Bool.eq_iff_iff]
      simp only [cok, rng, Bool.and_eq_true, decide_eq_true_eq, Bool.not_eq_true']
      simp
      omega)]
    simp only [kindB, vnOf, loOf, hiOf, named]
    simp only [Bool.and_eq_true, decide_eq_true_eq, Bool.or_eq_true, Bool.not_eq_true', decide_eq_false_iff_not]
    constructor
    · rintro ⟨⟨⟨⟨⟨⟨⟨_, h1⟩, h2⟩, h3⟩, h4⟩, h5⟩, h6⟩, h8⟩
      have := hp h5 (by omega)
      exact ⟨⟨⟨this, h1⟩, h5⟩, ⟨by omega, by omega⟩, h6⟩
    · rintro ⟨⟨⟨h0, h1⟩, h5⟩, ⟨h2, h3⟩, h6⟩
      exact ⟨⟨⟨⟨⟨⟨⟨by simp, h1⟩, by omega⟩, by omega⟩, by omega⟩, h5⟩, h6⟩, .inl (by simp)⟩
  case other => simp [kindB]
  all_goals
    simp only [kindB, vnOf, loOf, hiOf, named]
    simp only [Bool.and_eq_true, decide_eq_true_eq, Bool.or_eq_true, Bool.not_eq_true', decide_eq_false_iff_not]
    constructor
    · rintro ⟨⟨⟨⟨⟨⟨⟨_, h1⟩, h2⟩, h3⟩, h4⟩, h5⟩, h6⟩, h8⟩
      have := hp h5 (by omega)
      have hl : pc = [] := List.length_eq_zero_iff.1 (by omega)
      simp at h8 ⊢
      refine ⟨⟨⟨this, h1⟩, h5⟩, ?_⟩
      first
        | exact ⟨⟨by omega, hl⟩, h8⟩
        | exact ⟨by omega, hl⟩
    · rintro ⟨⟨⟨h0, h1⟩, h5⟩, hh⟩
      have hl : pc.length = 0 := by omega
      refine ⟨⟨⟨⟨⟨⟨⟨by simp, h1⟩, by omega⟩, by first | trivial | omega⟩, by omega⟩, h5⟩, hnil hl⟩, ?_⟩
      first
        | exact .inr hh.2
        | exact .inl (by simp)

theorem c17 (w : World) (s : ByteArray) (a2 : Option Addr) (l2 c2 : Nat) (a3 : Option Addr) (l3 c3 : Nat) (x4 : Int) (n : Int) (p : PropS) (h : PropAt w s a2 l2 a3 l3 x4 p) :
    Calls Try.prog 17 #[.agg #[.string s, .slice a2 l2 c2, .slice a3 l3 c3, .int .i64 x4], .int .i64 n] w fun en w' => ∃ r, en = .returned (.bool r) ∧ (r = propB p n ∧ Ext w w') := by
  rw [← refB_eq]
  obtain ⟨pk, pv, pc, pn⟩ := p
  obtain ⟨rfl, hv, hc, rfl, hl2, hl3⟩ := h
  simp only at hv hc hl2 hl3
  refine calls17 _ _ _ _ _ _ _ _ _ _ w ?_
  refine AllocK.mk fun b w7 hb hblk hx => ?_
  have hcell := fun (w' : World) (k : Ext w7 w') => cell4 (hblk.ext k)
  have e2 := hv.1
  have e3 := hc.1
  obtain ⟨k0, k1, k2, k3, k4, k5, k6, k7, k8⟩ := kd_all pk
  have k0' : (pk.toList == (⟨#[115, 117, 109]⟩ : ByteArray).toList) = _ := k0
  have k1' : (pk.toList == (⟨#[109, 111, 115, 116]⟩ : ByteArray).toList) = _ := k1
  have k2' : (pk.toList == (⟨#[117, 110, 108, 105, 107, 101]⟩ : ByteArray).toList) = _ := k2
  have k3' : (pk.toList == (⟨#[100, 105, 115, 116, 105, 110, 99, 116]⟩ : ByteArray).toList) = _ := k3
  have k4' : (pk.toList == (⟨#[112, 114, 111, 100, 117, 99, 116]⟩ : ByteArray).toList) = _ := k4
  have k5' : (pk.toList == (⟨#[109, 97, 120]⟩ : ByteArray).toList) = _ := k5
  have k6' : (pk.toList == (⟨#[101, 108, 101, 109, 101, 110, 116]⟩ : ByteArray).toList) = _ := k6
  have k7' : (pk.toList == (⟨#[114, 101, 105, 102, 121]⟩ : ByteArray).toList) = _ := k7
  have k8' : (pk.toList == (⟨#[97, 112, 97, 114, 116]⟩ : ByteArray).toList) = _ := k8
  simp only [add_mk, Nat.zero_add]
  refine ⟨fun x10 x11 x12 w9 => Ext w7 w9 ∧ kdOf pk ≠ .other ∧ x10 = vnOf (kdOf pk) pv.length ∧ x11 = loOf (kdOf pk) pv.length ∧ x12 = hiOf (kdOf pk) pv.length, ?_, ?_⟩
  · rintro w9 _ _ _ ⟨hB9, hk0, rfl, rfl, rfl⟩
    have hC := hcell w9 hB9
    have hx9 := hx.trans hB9
    have hR : refB ⟨pk, pv, pc, pn⟩ n = (decide (n ≤ 40) && decide (1 ≤ vnOf (kdOf pk) pv.length ∧ vnOf (kdOf pk) pv.length ≤ 40) && decide ((pv.length : Int) = vnOf (kdOf pk) pv.length) &&
      decide (loOf (kdOf pk) pv.length ≤ pc.length ∧ pc.length ≤ hiOf (kdOf pk) pv.length) && pv.all (fun x => decide (0 ≤ x ∧ x < n)) && pc.all (cok (kdOf pk)) && (!named (kdOf pk) || rng pn)) := by
      rw [refB, decide_eq_false hk0]; rfl
    rw [hR]
    refine BoolK.mk (fun t => ?_) (fun t => ?_)
    · simp at t; exact ⟨by rw [decide_eq_false (by omega)]; rfl, hx9⟩
    simp at t
    rw [decide_eq_true t, Bool.true_and]
    refine BoolK.mk (fun t => ?_) (fun t1 => ?_)
    · simp at t; exact ⟨by rw [decide_eq_false (by omega)]; rfl, hx9⟩
    simp at t1
    refine BoolK.mk (fun t => ?_) (fun t2 => ?_)
    · simp at t; exact ⟨by rw [decide_eq_false (by omega)]; rfl, hx9⟩
    simp at t2
    rw [decide_eq_true (show 1 ≤ vnOf (kdOf pk) pv.length ∧ vnOf (kdOf pk) pv.length ≤ 40 by omega), Bool.true_and]
    refine ⟨_, _, _, hC.2.1, BoolK.mk (fun t => ?_) (fun t3 => ?_)⟩
    · simp at t; exact ⟨by rw [decide_eq_false (by omega)]; rfl, hx9⟩
    simp at t3
    rw [decide_eq_true (show (pv.length : Int) = vnOf (kdOf pk) pv.length by omega), Bool.true_and]
    refine ⟨_, _, _, hC.2.2.1, BoolK.mk (fun t => ?_) (fun t4 => ?_)⟩
    · simp at t; exact ⟨by rw [decide_eq_false (by omega)]; rfl, hx9⟩
    simp at t4
    refine ⟨_, _, _, hC.2.2.1, BoolK.mk (fun t => ?_) (fun t5 => ?_)⟩
    · simp at t; exact ⟨by rw [decide_eq_false (by omega)]; rfl, hx9⟩
    simp at t5
    rw [decide_eq_true (show loOf (kdOf pk) pv.length ≤ pc.length ∧ pc.length ≤ hiOf (kdOf pk) pv.length by omega), Bool.true_and]
    refine ⟨fun i w' => ∃ k : Nat, i = k ∧ k ≤ pv.length ∧ (pv.take k).all (fun x => decide (0 ≤ x ∧ x < n)) = true ∧ Ext w7 w', fun i _ => pv.length - i.toNat, ⟨⟨0, rfl, by omega, rfl, hB9⟩, trivial⟩, ?_⟩
    rintro w18 i ⟨k, rfl, hk, hall, hB⟩
    refine ⟨_, _, _, (hcell _ hB).2.1, BoolK.mk (fun hlt => ?_) (fun hge => ?_)⟩
    · have hlt : k < pv.length := by simp at hlt; omega
      obtain ⟨b1, o1, rfl, h0⟩ := intAt hv w18 (hx.trans hB) hlt
      refine ⟨_, _, _, (hcell _ hB).2.1, by omega, ?_⟩
      simp only [AddrK, Int.toNat_natCast, add_mk, Nat.mul_one]
      refine ⟨_, h0, BoolK.mk (fun t => ?_) (fun t => ?_)⟩
      · simp at t; exact ⟨by rw [all_false hlt (decide_eq_false (by omega))]; rfl, hx.trans hB⟩
      simp at t
      refine ⟨_, _, _, (hcell _ hB).2.1, by omega, ?_⟩
      simp only [add_mk]
      refine ⟨_, h0, BoolK.mk (fun t2 => ?_) (fun t2 => ?_)⟩
      · simp at t2; exact ⟨by rw [all_false hlt (decide_eq_false (by omega))]; rfl, hx.trans hB⟩
      simp at t2
      rw [wrap_succ (by omega)]
      exact ⟨⟨k + 1, rfl, by omega, by rw [all_take hlt, hall, decide_eq_true (by omega)]; rfl, hB⟩, by simp; omega⟩
    have : k = pv.length := by simp at hge; omega
    subst this
    rw [List.take_length] at hall
    rw [hall, Bool.true_and]
    refine ⟨fun i w' => ∃ k : Nat, i = k ∧ k ≤ pc.length ∧ (pc.take k).all (cok (kdOf pk)) = true ∧ Ext w7 w', fun i _ => pc.length - i.toNat, ⟨⟨0, rfl, by omega, rfl, hB⟩, trivial⟩, ?_⟩
    clear hall hk hge hB hC hx9 hR hB9
    rintro w29 i ⟨k, rfl, hk, hall, hB⟩
    have hC := hcell _ hB
    refine ⟨_, _, _, hC.2.2.1, BoolK.mk (fun hlt => ?_) (fun hge => ?_)⟩
    · have hlt : k < pc.length := by simp at hlt; omega
      obtain ⟨b1, o1, rfl, h0⟩ := intAt hc w29 (hx.trans hB) hlt
      have hF : cok (kdOf pk) pc[k] = false → (false = (pc.all (cok (kdOf pk)) && (!named (kdOf pk) || rng pn)) ∧ Ext w w29) := fun hh => ⟨by rw [all_false hlt hh]; rfl, hx.trans hB⟩
      have hT : cok (kdOf pk) pc[k] = true → ((∃ k' : Nat, IntKind.wrap .i64 ((k : Int) + 1) = k' ∧ k' ≤ pc.length ∧ (pc.take k').all (cok (kdOf pk)) = true ∧ Ext w7 w29) ∧ pc.length - (IntKind.wrap .i64 ((k : Int) + 1)).toNat < pc.length - k) := fun hh => by
        rw [wrap_succ (by omega)]
        exact ⟨⟨k + 1, rfl, by omega, by rw [all_take hlt, hall, hh]; rfl, hB⟩, by simp; omega⟩
      refine ⟨_, _, _, hC.2.2.1, by omega, ?_⟩
      simp only [AddrK, Int.toNat_natCast, add_mk, Nat.mul_one]
      refine ⟨_, h0, BoolK.mk (fun t => ?_) (fun t => ?_)⟩
      · simp at t; refine hF ?_; rw [cok, rng, decide_eq_false (by omega)]; rfl
      simp at t
      refine BoolK.mk (fun t1 => ?_) (fun t1 => ?_)
      · simp at t1; refine hF ?_; rw [cok, rng, decide_eq_false (by omega)]; rfl
      simp at t1
      have hr : rng pc[k] = true := decide_eq_true (by omega)
      refine BoolK.mk (fun t2 => ?_) (fun t2 => ?_)
      · refine ⟨_, hC.1, ?_⟩
        rw [k0']
        refine BoolK.mk (fun t3 => ?_) (fun t3 => ?_)
        · refine hF ?_; rw [cok, hr, t2, t3]; rfl
        refine ⟨_, hC.1, ?_⟩
        rw [k1']
        refine BoolK.mk (fun t4 => ?_) (fun t4 => ?_)
        · refine hF ?_; rw [cok, hr, t2, t4]; simp
        refine BoolK.mk (fun t5 => ?_) (fun t5 => ?_)
        · refine ⟨_, hC.1, ?_⟩
          rw [k8']
          refine BoolK.mk (fun t6 => ?_) (fun t6 => ?_)
          · refine hF ?_; rw [cok, t5, t6]; simp
          · refine hT ?_; rw [cok, hr, t3, t4, t6]; simp
        · refine hT ?_; rw [cok, hr, t3, t4, t5]; simp
      · refine BoolK.mk (fun t5 => ?_) (fun t5 => ?_)
        · refine ⟨_, hC.1, ?_⟩
          rw [k8']
          refine BoolK.mk (fun t6 => ?_) (fun t6 => ?_)
          · refine hF ?_; rw [cok, t5, t6]; simp
          · refine hT ?_; rw [cok, hr, t2, t6]; simp
        · refine hT ?_; rw [cok, hr, t2, t5]; simp
    have : k = pc.length := by simp at hge; omega
    subst this
    rw [List.take_length] at hall
    rw [hall, Bool.true_and]
    refine ⟨fun q w40 => w40 = w29 ∧ q = named (kdOf pk), ?_, ?_⟩
    · rintro w40 q ⟨rfl, rfl⟩
      refine BoolK.mk (fun t => ?_) (fun t => ?_)
      · simp at t; exact ⟨by rw [t]; rfl, hx.trans hB⟩
      simp at t; rw [t]
      refine ⟨_, hC.2.2.2, BoolK.mk (fun t2 => ?_) (fun t2 => ?_)⟩
      · refine ⟨_, hC.2.2.2, ?_, hx.trans hB⟩
        simp at t2
        simp only [rng, Bool.not_true, Bool.false_or, decide_eq_decide]; omega
      · simp at t2
        exact ⟨by simp only [rng, Bool.not_true, Bool.false_or]; rw [decide_eq_false (by omega)], hx.trans hB⟩
    · refine ⟨_, hC.1, ?_⟩
      rw [k0']
      refine BoolK.mk (fun t => ?_) (fun t => ?_)
      · exact ⟨rfl, by rw [named, t]; rfl⟩
      refine ⟨_, hC.1, ?_⟩
      rw [k1']
      refine BoolK.mk (fun t1 => ?_) (fun t1 => ?_)
      · exact ⟨rfl, by rw [named, t1]; simp⟩
      refine ⟨_, hC.1, ?_⟩
      rw [k2']
      refine BoolK.mk (fun t2 => ?_) (fun t2 => ?_)
      · exact ⟨rfl, by rw [named, t2]; simp⟩
      refine ⟨_, hC.1, ?_⟩
      rw [k7']
      exact ⟨rfl, by rw [named, t, t1, t2]; rfl⟩
  · refine ⟨_, (hcell w7 (Ext.refl _)).1, ?_⟩
    rw [k0', k1', k2', k3', k4', k5', k6', k7', k8']
    refine ⟨fun q w50 => Ext w7 w50 ∧ q = (decide (kdOf pk = .sum) || decide (kdOf pk = .most)), ?_, ?_⟩
    · rintro w50 q ⟨hB, rfl⟩
      refine BoolK.mk (fun t => ?_) (fun t => ?_)
      · refine DrewK.mk fun w52 hx52 => ?_
        have hC := hcell _ (hB.trans hx52)
        refine ⟨_, _, _, hC.2.1, _, _, _, hC.2.1, _, _, _, hC.2.1, hB.trans hx52, ?_⟩
        simp at t
        rcases t with t | t <;> rw [t] <;> exact ⟨by simp, by rw [e2], by rw [e2], by rw [e2]⟩
      have hC := hcell _ hB
      refine BoolK.mk (fun t1 => ?_) (fun t1 => ?_)
      · refine ⟨_, _, _, hC.2.1, hB, ?_⟩
        rw [of_decide_eq_true t1]; exact ⟨by simp, by rw [e2], rfl, rfl⟩
      refine BoolK.mk (fun t2 => ?_) (fun t2 => ?_)
      · refine ⟨hB, ?_⟩
        rw [of_decide_eq_true t2]; exact ⟨by simp, rfl, rfl, rfl⟩
      refine ⟨fun q w58 => Ext w7 w58 ∧ q = (decide (kdOf pk = .product) || (decide (kdOf pk = .max) || decide (kdOf pk = .reify))), ?_, ?_⟩
      · rintro w58 q ⟨hB, rfl⟩
        refine BoolK.mk (fun t3 => ?_) (fun t3 => ?_)
        · refine ⟨hB, ?_⟩
          simp at t3
          rcases t3 with t | t | t <;> rw [t] <;> exact ⟨by simp, rfl, rfl, rfl⟩
        refine BoolK.mk (fun t4 => ?_) (fun t4 => ?_)
        · refine ⟨hB, ?_⟩
          rw [of_decide_eq_true t4]; exact ⟨by simp, rfl, rfl, rfl⟩
        refine BoolK.mk (fun t5 => ?_) (fun t5 => ?_)
        · refine ⟨hB, ?_⟩
          rw [of_decide_eq_true t5]; exact ⟨by simp, rfl, rfl, rfl⟩
        have hk : kdOf pk = .other := by
          simp at t t1 t2 t3 t4 t5
          cases hh : kdOf pk <;> simp_all
        refine ⟨?_, hx.trans hB⟩
        rw [refB]; simp only; rw [hk]; rfl
      · refine BoolK.mk (fun q => ?_) (fun q => ?_)
        · rw [q]; exact ⟨hB, rfl⟩
        · refine BoolK.mk (fun q2 => ?_) (fun q2 => ?_)
          · rw [q, q2]; exact ⟨hB, rfl⟩
          · rw [q, q2]; exact ⟨hB, rfl⟩
    · refine BoolK.mk (fun q => ?_) (fun q => ?_)
      · rw [q]; exact ⟨Ext.refl _, rfl⟩
      · rw [q]; exact ⟨Ext.refl _, rfl⟩
end Go.Proofs.Ytggfnakhmjkoeaa

namespace Go.Proofs.Ytggfnakhmjkoeaa
open Go Go.V Go.Proofs
open Go.RowKit (Below)
/-! (manystrand/domain.bound).spread -/
def N88 (x1 : Int) (x2 : Int) (o3 : Option Addr) (x4 : Int) (K : Int → Int → World → Prop) (w : World) : Prop :=
  AllocK w (#[(.int .i64 x1), (.int .i64 x2), (.pointer o3)]) 95 fun b5 w6 =>
  BoolK (decide ((x4 : Int) < 0))
  (DrewK w6 fun w7 =>
    ∃ (x8 : Int), w7.cell? (b5.add 1) = some (.int .i64 x8) ∧
    (∃ (x9 : Int), w7.cell? b5 = some (.int .i64 x9) ∧
      (K (IntKind.wrap .i64 (x4 * x8)) (IntKind.wrap .i64 (x4 * x9)) w7)))
  (DrewK w6 fun w10 =>
    ∃ (x11 : Int), w10.cell? b5 = some (.int .i64 x11) ∧
    (∃ (x12 : Int), w10.cell? (b5.add 1) = some (.int .i64 x12) ∧
      (K (IntKind.wrap .i64 (x4 * x11)) (IntKind.wrap .i64 (x4 * x12)) w10)))
def ann88 : Ann := (.two .nil (.two (.two .nil (.two (.two (.any 10 (.take 0 (.take 1 (.take 2 (.take 3 (.take 4 (.take 5 (.take 6 (.take 7 (.take 8 (.take 9 .done))))))))))) .nil) .nil)) (.two (.any 10 (.take 0 (.take 1 (.take 2 (.take 3 (.take 4 (.take 5 (.take 6 (.take 7 (.take 8 (.take 9 .done))))))))))) .nil)))
noncomputable def code88 : Code := match Try.f88.body with | some c => c | none => .skip
theorem wp88 (x1 : Int) (x2 : Int) (o3 : Option Addr) (x4 : Int) (K : Int → Int → World → Prop) (w : World) : WP Try.prog tab code88 ann88 (fnQ tab Try.f88.results.toList [(.one (.int .i64)), (.one (.int .i64))] K) (argE 0 [(.agg #[(.int .i64 x1), (.int .i64 x2), (.pointer o3)]), (.int .i64 x4)]) w = N88 x1 x2 o3 x4 K w := by kernel_rfl
theorem calls88 (x1 : Int) (x2 : Int) (o3 : Option Addr) (x4 : Int) (K : Int → Int → World → Prop) (w : World) (h : N88 x1 x2 o3 x4 K w) : Calls Try.prog 88 #[(.agg #[(.int .i64 x1), (.int .i64 x2), (.pointer o3)]), (.int .i64 x4)] w fun en w' => ∃ (x13 : Int), ∃ (x14 : Int), en = .returned (.tuple #[(.int .i64 x13), (.int .i64 x14)]) ∧ K x13 x14 w' :=
  have e : (fun en w' => ExShs [(.one (.int .i64)), (.one (.int .i64))] fun vs => en = .returned (tupled vs) ∧ ap [(.one (.int .i64)), (.one (.int .i64))] K vs fun p => p w') = (fun (en : Ending) (w' : World) => ∃ (x13 : Int), ∃ (x14 : Int), en = .returned (.tuple #[(.int .i64 x13), (.int .i64 x14)]) ∧ K x13 x14 w') := by kernel_rfl
  e ▸ fn_sound tabOk mixed Try.func88 (by kernel_rfl : Try.f88.body = some code88) ann88 [(.agg #[(.int .i64 x1), (.int .i64 x2), (.pointer o3)]), (.int .i64 x4)] [(.one (.int .i64)), (.one (.int .i64))] K w (by kernel_rfl) ((wp88 x1 x2 o3 x4 K w).symm ▸ h)
end Go.Proofs.Ytggfnakhmjkoeaa

namespace Go.Proofs.Ytggfnakhmjkoeaa
open Go Go.V Go.Proofs
open Go.RowKit (Below)
/-! (manystrand/domain.bound).one -/
def N89 (x1 : Int) (x2 : Int) (o3 : Option Addr) (x4 : Int) (K : Bool → World → Prop) (w : World) : Prop :=
  AllocK w (#[(.int .i64 x1), (.int .i64 x2), (.pointer o3)]) 95 fun b5 w6 =>
  ∃ (x7 : Int), w6.cell? b5 = some (.int .i64 x7) ∧
  (BoolK ((x7 : Int) == x4)
    (∃ (x8 : Int), w6.cell? (b5.add 1) = some (.int .i64 x8) ∧
      (K ((x8 : Int) == x4) w6))
    (K false w6))
def ann89 : Ann := (.two .nil (.two .nil .nil))
noncomputable def code89 : Code := match Try.f89.body with | some c => c | none => .skip
theorem wp89 (x1 : Int) (x2 : Int) (o3 : Option Addr) (x4 : Int) (K : Bool → World → Prop) (w : World) : WP Try.prog tab code89 ann89 (fnQ tab Try.f89.results.toList [(.one .bool)] K) (argE 0 [(.agg #[(.int .i64 x1), (.int .i64 x2), (.pointer o3)]), (.int .i64 x4)]) w = N89 x1 x2 o3 x4 K w := by kernel_rfl
theorem calls89 (x1 : Int) (x2 : Int) (o3 : Option Addr) (x4 : Int) (K : Bool → World → Prop) (w : World) (h : N89 x1 x2 o3 x4 K w) : Calls Try.prog 89 #[(.agg #[(.int .i64 x1), (.int .i64 x2), (.pointer o3)]), (.int .i64 x4)] w fun en w' => ∃ (p9 : Bool), en = .returned (.bool p9) ∧ K p9 w' :=
  have e : (fun en w' => ExShs [(.one .bool)] fun vs => en = .returned (tupled vs) ∧ ap [(.one .bool)] K vs fun p => p w') = (fun (en : Ending) (w' : World) => ∃ (p9 : Bool), en = .returned (.bool p9) ∧ K p9 w') := by kernel_rfl
  e ▸ fn_sound tabOk mixed Try.func89 (by kernel_rfl : Try.f89.body = some code89) ann89 [(.agg #[(.int .i64 x1), (.int .i64 x2), (.pointer o3)]), (.int .i64 x4)] [(.one .bool)] K w (by kernel_rfl) ((wp89 x1 x2 o3 x4 K w).symm ▸ h)
end Go.Proofs.Ytggfnakhmjkoeaa

namespace Go.Proofs.Ytggfnakhmjkoeaa
open Go Go.V Go.Proofs
open Go.RowKit (Below)
/-! (manystrand/domain.bound).holds -/
def N90 (x1 : Int) (x2 : Int) (o3 : Option Addr) (x4 : Int) (K : Bool → World → Prop) (w : World) : Prop :=
  AllocK w (#[(.int .i64 x1), (.int .i64 x2), (.pointer o3)]) 95 fun b5 w6 =>
  BoolK (decide ((x4 : Int) ≥ 0))
  (BoolK (decide ((x4 : Int) ≤ 1000))
    (∃ (o7 : Option Addr), w6.cell? (b5.add 2) = some (.pointer o7) ∧
      (AddrK o7 fun b8 =>
        (0 ≤ (x4 : Int) ∧ (x4 : Int) < (1001 : Nat)) ∧
        ∃ (p9 : Bool), w6.cell? (b8.add ((x4 : Int).toNat * 1)) = some (.bool p9) ∧
        (K p9 w6)))
    (K false w6))
  (K false w6)
def ann90 : Ann := (.two .nil (.two .nil .nil))
noncomputable def code90 : Code := match Try.f90.body with | some c => c | none => .skip
theorem wp90 (x1 : Int) (x2 : Int) (o3 : Option Addr) (x4 : Int) (K : Bool → World → Prop) (w : World) : WP Try.prog tab code90 ann90 (fnQ tab Try.f90.results.toList [(.one .bool)] K) (argE 0 [(.agg #[(.int .i64 x1), (.int .i64 x2), (.pointer o3)]), (.int .i64 x4)]) w = N90 x1 x2 o3 x4 K w := by kernel_rfl
theorem calls90 (x1 : Int) (x2 : Int) (o3 : Option Addr) (x4 : Int) (K : Bool → World → Prop) (w : World) (h : N90 x1 x2 o3 x4 K w) : Calls Try.prog 90 #[(.agg #[(.int .i64 x1), (.int .i64 x2), (.pointer o3)]), (.int .i64 x4)] w fun en w' => ∃ (p10 : Bool), en = .returned (.bool p10) ∧ K p10 w' :=
  have e : (fun en w' => ExShs [(.one .bool)] fun vs => en = .returned (tupled vs) ∧ ap [(.one .bool)] K vs fun p => p w') = (fun (en : Ending) (w' : World) => ∃ (p10 : Bool), en = .returned (.bool p10) ∧ K p10 w') := by kernel_rfl
  e ▸ fn_sound tabOk mixed Try.func90 (by kernel_rfl : Try.f90.body = some code90) ann90 [(.agg #[(.int .i64 x1), (.int .i64 x2), (.pointer o3)]), (.int .i64 x4)] [(.one .bool)] K w (by kernel_rfl) ((wp90 x1 x2 o3 x4 K w).symm ▸ h)
end Go.Proofs.Ytggfnakhmjkoeaa

namespace Go.Proofs.Ytggfnakhmjkoeaa
open Go Go.V Go.Proofs
open Go.RowKit (Below)

abbrev Dm := List (Int × Int)
def mn (d : Dm) : Int := match d.head? with | some p => p.1 | none => 0
def mx (d : Dm) : Int := match d.getLast? with | some p => p.2 | none => 0
def oneB (d : Dm) (v : Int) : Bool := decide (mn d = v) && decide (mx d = v)
def at' (bs : List Dm) (i : Nat) : Dm := bs.getD i []
def lowS (c : List Int) (bs : List Dm) (i : Nat) : Nat → Int
  | 0 => 0
  | j + 1 => lowS c bs i j + if j = i then 0 else min (c.getD j 0 * mn (at' bs j)) (c.getD j 0 * mx (at' bs j))
def highS (c : List Int) (bs : List Dm) (i : Nat) : Nat → Int
  | 0 => 0
  | j + 1 => highS c bs i j + if j = i then 0 else max (c.getD j 0 * mn (at' bs j)) (c.getD j 0 * mx (at' bs j))
/-- reify -/
def reifS (N : Int) (b x y : Dm) (i : Nat) (v : Int) : Bool :=
  if i = 0 then (decide (v = 1) && decide (mn x ≤ mx y + N)) || (decide (v = 0) && decide (mx x > mn y + N))
  else if i = 1 then !(oneB b 1 && decide (v > mx y + N)) && !(oneB b 0 && decide (v ≤ mn y + N))
  else !(oneB b 1 && decide (mn x > v + N)) && !(oneB b 0 && decide (mx x ≤ v + N))
/-- whether value v of the i-th place passes -/
def passS (k : Kd) (c : List Int) (N : Int) (bs : List Dm) (i : Nat) (v : Int) : Bool :=
  match k with
  | .sum => decide (lowS c bs i bs.length ≤ N - c.getD i 0 * v) && decide (N - c.getD i 0 * v ≤ highS c bs i bs.length)
  | .most => decide (lowS c bs i bs.length ≤ N - c.getD i 0 * v)
  | .unlike => if i = 0 then !oneB (at' bs 1) (v + N) else !oneB (at' bs 0) (v - N)
  | .distinct => (List.range bs.length).all fun j => decide (j = i) || !oneB (at' bs j) v
  | .product => if i = 2 then decide (mn (at' bs 0) * mn (at' bs 1) ≤ v) && decide (v ≤ mx (at' bs 0) * mx (at' bs 1))
      else decide (v * mn (at' bs (1 - i)) ≤ mx (at' bs 2)) && decide (v * mx (at' bs (1 - i)) ≥ mn (at' bs 2))
  | .element => if i = 0 then decide (1 ≤ v) && (decide (v ≤ c.length) && inD (at' bs 1) (c.getD (v - 1).toNat 0))
      else (List.range c.length).any fun k => decide (c.getD k 0 = v) && inD (at' bs 0) (k + 1)
  | .max => if i = 2 then decide (max (mn (at' bs 0)) (mn (at' bs 1)) ≤ v) && decide (v ≤ max (mx (at' bs 0)) (mx (at' bs 1)))
      else decide (v ≤ mx (at' bs 2)) && (decide (mx (at' bs (1 - i)) ≥ mn (at' bs 2)) || decide (v ≥ mn (at' bs 2)))
  | .reify => reifS N (at' bs 0) (at' bs 1) (at' bs 2) i v
  | _ => if i = 0 then decide (v + c.getD 0 0 ≤ mx (at' bs 1)) || decide (mn (at' bs 1) + c.getD 1 0 ≤ v)
      else decide (mn (at' bs 0) + c.getD 0 0 ≤ v) || decide (v + c.getD 1 0 ≤ mx (at' bs 0))

/-- a valid domain that has a value -/
structure Full (d : Dm) : Prop where
  vd : VD d
  ne : d ≠ []
theorem Full.ends {d : Dm} (h : Full d) : 0 ≤ mn d ∧ mn d ≤ mx d ∧ mx d ≤ 1000 := by
  obtain ⟨hv, hne⟩ := h
  cases d with
  | nil => exact absurd rfl hne
  | cons p ps =>
    have e1 : mn (p :: ps) = p.1 := rfl
    have hl : (p :: ps).getLast? = some ((p :: ps).getLast (by simp)) := List.getLast?_eq_some_getLast (by simp)
    have e2 : mx (p :: ps) = ((p :: ps).getLast (by simp)).2 := by simp only [mx]; rw [hl]
    have hm : (p :: ps).getLast (by simp) ∈ p :: ps := List.getLast_mem (by simp)
    generalize (p :: ps).getLast (by simp) = q at e2 hm
    have h1 := hv.all p List.mem_cons_self
    have h2 := hv.all q hm
    rcases List.mem_cons.1 hm with rfl | hm
    · rw [e1, e2]; omega
    · have := (List.pairwise_cons.1 hv.pw).1 q hm
      rw [e1, e2]; omega

/-- a bound in memory -/
def RBnd (w : World) (f : Cells) (d : Dm) : Prop :=
  f 0 = some (.int .i64 (mn d)) ∧ f 1 = some (.int .i64 (mx d)) ∧ ∃ b, f 2 = some (.pointer (some ⟨b, 0, none⟩)) ∧ SetAt w b (fun v => inD d v)
theorem RBnd.mono : Mono RBnd := fun _ _ _ _ _ e h ⟨h0, h1, b, h2, h3⟩ => ⟨h _ _ h0, h _ _ h1, b, h _ _ h2, h3.ext e⟩
abbrev Bnds (w : World) (a : Option Addr) (l : Nat) (bs : List Dm) : Prop := Go.V.Rows 3 RBnd w a l bs
theorem bndAt {w : World} {a : Option Addr} {l : Nat} {bs : List Dm} (h : Bnds w a l bs) (w' : World) (k : Ext w w') {i : Nat} (hi : i < bs.length) :
    ∃ b o s, a = some ⟨b, o, none⟩ ∧ w'.cell? ⟨b, o + i * 3, none⟩ = some (.int .i64 (mn bs[i])) ∧ w'.cell? ⟨b, o + i * 3 + 1, none⟩ = some (.int .i64 (mx bs[i])) ∧
      w'.cell? ⟨b, o + i * 3 + 2, none⟩ = some (.pointer (some ⟨s, 0, none⟩)) ∧ SetAt w' s (fun v => inD bs[i] v) := by
  obtain ⟨b, o, ha, h0, h1, s, h2, h3⟩ := (h.ext RBnd.mono k).get hi
  exact ⟨b, o, s, ha, by simpa using h0, h1, h2, h3⟩

theorem cell3 {w : World} {b t : Nat} {v0 v1 v2 : Value} (h : Blk w b #[v0, v1, v2] t) :
    w.cell? ⟨b, 0, none⟩ = some v0 ∧ w.cell? ⟨b, 1, none⟩ = some v1 ∧ w.cell? ⟨b, 2, none⟩ = some v2 :=
  ⟨by rw [h.cell]; rfl, by rw [h.cell]; rfl, by rw [h.cell]; rfl⟩

theorem c89 (w : World) (x1 x2 : Int) (o : Option Addr) (v : Int) :
    Calls Try.prog 89 #[.agg #[.int .i64 x1, .int .i64 x2, .pointer o], .int .i64 v] w fun en w' => ∃ r, en = .returned (.bool r) ∧ (r = (decide (x1 = v) && decide (x2 = v)) ∧ Ext w w') := by
  refine calls89 _ _ _ _ _ w (AllocK.mk fun b w6 hb hblk hx => ?_)
  obtain ⟨h0, h1, _⟩ := cell3 hblk
  rw [add_mk]
  refine ⟨_, h0, BoolK.mk (fun t => ?_) (fun t => ?_)⟩
  · refine ⟨_, h1, ?_, hx⟩
    rw [decide_eq_true (by simpa using t)]; rfl
  · exact ⟨by rw [decide_eq_false (by simpa using t)]; rfl, hx⟩

theorem c90 (w : World) (x1 x2 : Int) (s : Nat) (d : Dm) (v : Int) (hs : SetAt w s (fun v => inD d v)) (hd : VD d) :
    Calls Try.prog 90 #[.agg #[.int .i64 x1, .int .i64 x2, .pointer (some ⟨s, 0, none⟩)], .int .i64 v] w fun en w' => ∃ r, en = .returned (.bool r) ∧ (r = inD d v ∧ Ext w w') := by
  refine calls90 _ _ _ _ _ w (AllocK.mk fun b w6 hb hblk hx => ?_)
  obtain ⟨_, _, h2⟩ := cell3 hblk
  have hout : ¬ (0 ≤ v ∧ v ≤ 1000) → false = inD d v := fun h => by
    rw [eq_comm, Bool.eq_false_iff]; exact fun hh => h (hd.bound hh)
  refine BoolK.mk (fun t => ?_) (fun t => ?_)
  · simp at t
    refine BoolK.mk (fun t2 => ?_) (fun t2 => ?_)
    · simp at t2
      rw [add_mk]
      refine ⟨_, h2, by omega, ?_⟩
      simp only [add_mk, Nat.zero_add, Nat.mul_one]
      refine ⟨_, (hs.ext hx).cell (i := v.toNat) (by omega), ?_, hx⟩
      rw [show ((v.toNat : Nat) : Int) = v by omega]
    · simp at t2; exact ⟨hout (by omega), hx⟩
  · simp at t; exact ⟨hout (by omega), hx⟩

theorem c88 (w : World) (x1 x2 : Int) (o : Option Addr) (c : Int) (h0 : 0 ≤ x1) (h1 : x1 ≤ x2) (h2 : x2 ≤ 1000) (hc : -1000000 ≤ c ∧ c ≤ 1000000) :
    Calls Try.prog 88 #[.agg #[.int .i64 x1, .int .i64 x2, .pointer o], .int .i64 c] w fun en w' => ∃ y z, en = .returned (.tuple #[.int .i64 y, .int .i64 z]) ∧
      (y = min (c * x1) (c * x2) ∧ z = max (c * x1) (c * x2) ∧ -1000000000 ≤ y ∧ y ≤ 1000000000 ∧ -1000000000 ≤ z ∧ z ≤ 1000000000 ∧ Ext w w') := by
  have hb : ∀ x, 0 ≤ x → x ≤ 1000 → -1000000000 ≤ c * x ∧ c * x ≤ 1000000000 := fun x hx0 hx1 => by
    have e1 : (-1000000) * x ≤ c * x := Int.mul_le_mul_of_nonneg_right hc.1 hx0
    have e2 : c * x ≤ 1000000 * x := Int.mul_le_mul_of_nonneg_right hc.2 hx0
    omega
  have b1 := hb x1 h0 (by omega)
  have b2 := hb x2 (by omega) h2
  refine calls88 _ _ _ _ _ w (AllocK.mk fun b w6 hb hblk hx => ?_)
  refine BoolK.mk (fun t => ?_) (fun t => ?_)
  · simp at t
    have e : c * x2 ≤ c * x1 := Int.mul_le_mul_of_nonpos_left (by omega) h1
    refine DrewK.mk fun w7 hx7 => ?_
    obtain ⟨g0, g1, _⟩ := cell3 (hblk.ext hx7)
    simp only [add_mk, Nat.zero_add]
    refine ⟨_, g1, _, g0, ?_⟩
    rw [wrap_id (by omega) (by omega), wrap_id (by omega) (by omega)]
    exact ⟨by omega, by omega, by omega, by omega, by omega, by omega, hx.trans hx7⟩
  · simp at t
    have e : c * x1 ≤ c * x2 := Int.mul_le_mul_of_nonneg_left h1 t
    refine DrewK.mk fun w7 hx7 => ?_
    obtain ⟨g0, g1, _⟩ := cell3 (hblk.ext hx7)
    simp only [add_mk, Nat.zero_add]
    refine ⟨_, g0, _, g1, ?_⟩
    rw [wrap_id (by omega) (by omega), wrap_id (by omega) (by omega)]
    exact ⟨by omega, by omega, by omega, by omega, by omega, by omega, hx.trans hx7⟩
end Go.Proofs.Ytggfnakhmjkoeaa

namespace Go.Proofs.Ytggfnakhmjkoeaa
open Go Go.V Go.Proofs
open Go.RowKit (Below)
/-! manystrand/domain.reified -/
def N91 (s1 : ByteArray) (a2 : Option Addr) (l2 : Nat) (c2 : Nat) (a3 : Option Addr) (l3 : Nat) (c3 : Nat) (x4 : Int) (a5 : Option Addr) (l5 : Nat) (_c5 : Nat) (x6 : Int) (x7 : Int) (K : Bool → World → Prop) (w : World) : Prop :=
  AllocK w (#[(.string s1), (.slice a2 l2 c2), (.slice a3 l3 c3), (.int .i64 x4)]) 24 fun b8 w9 =>
  ∃ (J10 : Option Addr → Option Addr → Option Addr → World → Prop),
  (∀ (w11 : World) (o12 : Option Addr) (o13 : Option Addr) (o14 : Option Addr), J10 o12 o13 o14 w11 →
    BoolK ((x6 : Int) == 0)
    (BoolK ((x7 : Int) == 1)
      (AddrK o13 fun b15 =>
        ∃ (x16 : Int), w11.cell? b15 = some (.int .i64 x16) ∧
        (AddrK o14 fun b17 =>
          ∃ (x18 : Int), w11.cell? (b17.add 1) = some (.int .i64 x18) ∧
          (∃ (x19 : Int), w11.cell? (b8.add 3) = some (.int .i64 x19) ∧
            (BoolK (decide ((x16 : Int) ≤ IntKind.wrap .i64 (x18 + x19)))
              (K true w11)
              (BoolK ((x7 : Int) == 0)
                (AddrK o13 fun b20 =>
                  ∃ (x21 : Int), w11.cell? (b20.add 1) = some (.int .i64 x21) ∧
                  (AddrK o14 fun b22 =>
                    ∃ (x23 : Int), w11.cell? b22 = some (.int .i64 x23) ∧
                    (∃ (x24 : Int), w11.cell? (b8.add 3) = some (.int .i64 x24) ∧
                      (K (decide ((x21 : Int) > IntKind.wrap .i64 (x23 + x24))) w11))))
                (K false w11))))))
      (BoolK ((x7 : Int) == 0)
        (AddrK o13 fun b25 =>
          ∃ (x26 : Int), w11.cell? (b25.add 1) = some (.int .i64 x26) ∧
          (AddrK o14 fun b27 =>
            ∃ (x28 : Int), w11.cell? b27 = some (.int .i64 x28) ∧
            (∃ (x29 : Int), w11.cell? (b8.add 3) = some (.int .i64 x29) ∧
              (K (decide ((x26 : Int) > IntKind.wrap .i64 (x28 + x29))) w11))))
        (K false w11)))
    (BoolK ((x6 : Int) == 1)
      (AddrK o12 fun b30 =>
        ∃ (x31 : Int), w11.cell? (b30.add 0) = some (.int .i64 x31) ∧
        (∃ (x32 : Int), w11.cell? (b30.add 1) = some (.int .i64 x32) ∧
          (∃ (o33 : Option Addr), w11.cell? (b30.add 2) = some (.pointer o33) ∧
            (Calls Try.prog 89 #[(.agg #[(.int .i64 x31), (.int .i64 x32), (.pointer o33)]), (.int .i64 1)] w11 fun e36 w35 =>
              ∃ (p34 : Bool), e36 = .returned (.bool p34) ∧
              (BoolK p34
                (AddrK o14 fun b37 =>
                  ∃ (x38 : Int), w35.cell? (b37.add 1) = some (.int .i64 x38) ∧
                  (∃ (x39 : Int), w35.cell? (b8.add 3) = some (.int .i64 x39) ∧
                    (BoolK (!(decide ((x7 : Int) > IntKind.wrap .i64 (x38 + x39))))
                      (AddrK o12 fun b40 =>
                        ∃ (x41 : Int), w35.cell? (b40.add 0) = some (.int .i64 x41) ∧
                        (∃ (x42 : Int), w35.cell? (b40.add 1) = some (.int .i64 x42) ∧
                          (∃ (o43 : Option Addr), w35.cell? (b40.add 2) = some (.pointer o43) ∧
                            (Calls Try.prog 89 #[(.agg #[(.int .i64 x41), (.int .i64 x42), (.pointer o43)]), (.int .i64 0)] w35 fun e46 w45 =>
                              ∃ (p44 : Bool), e46 = .returned (.bool p44) ∧
                              (BoolK p44
                                (AddrK o14 fun b47 =>
                                  ∃ (x48 : Int), w45.cell? b47 = some (.int .i64 x48) ∧
                                  (∃ (x49 : Int), w45.cell? (b8.add 3) = some (.int .i64 x49) ∧
                                    (K (!(decide ((x7 : Int) ≤ IntKind.wrap .i64 (x48 + x49)))) w45)))
                                (K true w45))))))
                      (K false w35))))
                (AddrK o12 fun b50 =>
                  ∃ (x51 : Int), w35.cell? (b50.add 0) = some (.int .i64 x51) ∧
                  (∃ (x52 : Int), w35.cell? (b50.add 1) = some (.int .i64 x52) ∧
                    (∃ (o53 : Option Addr), w35.cell? (b50.add 2) = some (.pointer o53) ∧
                      (Calls Try.prog 89 #[(.agg #[(.int .i64 x51), (.int .i64 x52), (.pointer o53)]), (.int .i64 0)] w35 fun e56 w55 =>
                        ∃ (p54 : Bool), e56 = .returned (.bool p54) ∧
                        (BoolK p54
                          (AddrK o14 fun b57 =>
                            ∃ (x58 : Int), w55.cell? b57 = some (.int .i64 x58) ∧
                            (∃ (x59 : Int), w55.cell? (b8.add 3) = some (.int .i64 x59) ∧
                              (K (!(decide ((x7 : Int) ≤ IntKind.wrap .i64 (x58 + x59)))) w55)))
                          (K true w55)))))))))))
      (AddrK o12 fun b60 =>
        ∃ (x61 : Int), w11.cell? (b60.add 0) = some (.int .i64 x61) ∧
        (∃ (x62 : Int), w11.cell? (b60.add 1) = some (.int .i64 x62) ∧
          (∃ (o63 : Option Addr), w11.cell? (b60.add 2) = some (.pointer o63) ∧
            (Calls Try.prog 89 #[(.agg #[(.int .i64 x61), (.int .i64 x62), (.pointer o63)]), (.int .i64 1)] w11 fun e66 w65 =>
              ∃ (p64 : Bool), e66 = .returned (.bool p64) ∧
              (BoolK p64
                (AddrK o13 fun b67 =>
                  ∃ (x68 : Int), w65.cell? b67 = some (.int .i64 x68) ∧
                  (∃ (x69 : Int), w65.cell? (b8.add 3) = some (.int .i64 x69) ∧
                    (BoolK (!(decide ((x68 : Int) > IntKind.wrap .i64 (x7 + x69))))
                      (AddrK o12 fun b70 =>
                        ∃ (x71 : Int), w65.cell? (b70.add 0) = some (.int .i64 x71) ∧
                        (∃ (x72 : Int), w65.cell? (b70.add 1) = some (.int .i64 x72) ∧
                          (∃ (o73 : Option Addr), w65.cell? (b70.add 2) = some (.pointer o73) ∧
                            (Calls Try.prog 89 #[(.agg #[(.int .i64 x71), (.int .i64 x72), (.pointer o73)]), (.int .i64 0)] w65 fun e76 w75 =>
                              ∃ (p74 : Bool), e76 = .returned (.bool p74) ∧
                              (BoolK p74
                                (AddrK o13 fun b77 =>
                                  ∃ (x78 : Int), w75.cell? (b77.add 1) = some (.int .i64 x78) ∧
                                  (∃ (x79 : Int), w75.cell? (b8.add 3) = some (.int .i64 x79) ∧
                                    (K (!(decide ((x78 : Int) ≤ IntKind.wrap .i64 (x7 + x79)))) w75)))
                                (K true w75))))))
                      (K false w65))))
                (AddrK o12 fun b80 =>
                  ∃ (x81 : Int), w65.cell? (b80.add 0) = some (.int .i64 x81) ∧
                  (∃ (x82 : Int), w65.cell? (b80.add 1) = some (.int .i64 x82) ∧
                    (∃ (o83 : Option Addr), w65.cell? (b80.add 2) = some (.pointer o83) ∧
                      (Calls Try.prog 89 #[(.agg #[(.int .i64 x81), (.int .i64 x82), (.pointer o83)]), (.int .i64 0)] w65 fun e86 w85 =>
                        ∃ (p84 : Bool), e86 = .returned (.bool p84) ∧
                        (BoolK p84
                          (AddrK o13 fun b87 =>
                            ∃ (x88 : Int), w85.cell? (b87.add 1) = some (.int .i64 x88) ∧
                            (∃ (x89 : Int), w85.cell? (b8.add 3) = some (.int .i64 x89) ∧
                              (K (!(decide ((x88 : Int) ≤ IntKind.wrap .i64 (x7 + x89)))) w85)))
                          (K true w85))))))))))))) ∧
  (DrewK w9 fun w90 =>
    (0 ≤ (0 : Int) ∧ (0 : Int) < (l5 : Nat)) ∧
    AddrK a5 fun b91 =>
    ∃ (x92 : Int), w90.cell? ((b91.add ((0 : Int).toNat * 3)).add 0) = some (.int .i64 x92) ∧
    (∃ (x93 : Int), w90.cell? ((b91.add ((0 : Int).toNat * 3)).add 1) = some (.int .i64 x93) ∧
      (∃ (o94 : Option Addr), w90.cell? ((b91.add ((0 : Int).toNat * 3)).add 2) = some (.pointer o94) ∧
        ((0 ≤ (1 : Int) ∧ (1 : Int) < (l5 : Nat)) ∧
          AddrK a5 fun b95 =>
          ∃ (x96 : Int), w90.cell? ((b95.add ((1 : Int).toNat * 3)).add 0) = some (.int .i64 x96) ∧
          (∃ (x97 : Int), w90.cell? ((b95.add ((1 : Int).toNat * 3)).add 1) = some (.int .i64 x97) ∧
            (∃ (o98 : Option Addr), w90.cell? ((b95.add ((1 : Int).toNat * 3)).add 2) = some (.pointer o98) ∧
              ((0 ≤ (2 : Int) ∧ (2 : Int) < (l5 : Nat)) ∧
                AddrK a5 fun b99 =>
                ∃ (x100 : Int), w90.cell? ((b99.add ((2 : Int).toNat * 3)).add 0) = some (.int .i64 x100) ∧
                (∃ (x101 : Int), w90.cell? ((b99.add ((2 : Int).toNat * 3)).add 1) = some (.int .i64 x101) ∧
                  (∃ (o102 : Option Addr), w90.cell? ((b99.add ((2 : Int).toNat * 3)).add 2) = some (.pointer o102) ∧
                    ((AllocK w90 (#[.int .i64 0, .int .i64 0, .pointer none]) 95 fun b103 w104 =>
                        Below w90.heap.size w90 w104 ∧
                        ((AllocK w104 (#[.int .i64 0, .int .i64 0, .pointer none]) 95 fun b105 w106 =>
                            Below w90.heap.size w90 w106 ∧
                            (AllocK w106 (#[.int .i64 0, .int .i64 0, .pointer none]) 95 fun b107 w108 =>
                              Below w90.heap.size w90 w108 ∧
                              (SetK w108 (b103.add 0) (.int .i64 x92) fun w109 =>
                                SetK w109 (b103.add 1) (.int .i64 x93) fun w110 =>
                                SetK w110 (b103.add 2) (.pointer o94) fun w111 =>
                                Below w90.heap.size w90 w111 ∧
                                (SetK w111 (b105.add 0) (.int .i64 x96) fun w112 =>
                                  SetK w112 (b105.add 1) (.int .i64 x97) fun w113 =>
                                  SetK w113 (b105.add 2) (.pointer o98) fun w114 =>
                                  Below w90.heap.size w90 w114 ∧
                                  (SetK w114 (b107.add 0) (.int .i64 x100) fun w115 =>
                                    SetK w115 (b107.add 1) (.int .i64 x101) fun w116 =>
                                    SetK w116 (b107.add 2) (.pointer o102) fun w117 =>
                                    Below w90.heap.size w90 w117 ∧
                                    (J10 (some b103) (some b105) (some b107) w117)))))) ∧
                          (AllocK w104 (#[.int .i64 0, .int .i64 0, .pointer none]) 95 fun b118 w119 =>
                            Below w90.heap.size w90 w119 ∧
                            (AllocK w119 (#[.int .i64 0, .int .i64 0, .pointer none]) 95 fun b120 w121 =>
                              Below w90.heap.size w90 w121 ∧
                              (SetK w121 (b103.add 0) (.int .i64 x92) fun w122 =>
                                SetK w122 (b103.add 1) (.int .i64 x93) fun w123 =>
                                SetK w123 (b103.add 2) (.pointer o94) fun w124 =>
                                Below w90.heap.size w90 w124 ∧
                                (SetK w124 (b120.add 0) (.int .i64 x96) fun w125 =>
                                  SetK w125 (b120.add 1) (.int .i64 x97) fun w126 =>
                                  SetK w126 (b120.add 2) (.pointer o98) fun w127 =>
                                  Below w90.heap.size w90 w127 ∧
                                  (SetK w127 (b118.add 0) (.int .i64 x100) fun w128 =>
                                    SetK w128 (b118.add 1) (.int .i64 x101) fun w129 =>
                                    SetK w129 (b118.add 2) (.pointer o102) fun w130 =>
                                    Below w90.heap.size w90 w130 ∧
                                    (J10 (some b103) (some b120) (some b118) w130)))))))) ∧
                      ((AllocK w90 (#[.int .i64 0, .int .i64 0, .pointer none]) 95 fun b131 w132 =>
                          Below w90.heap.size w90 w132 ∧
                          ((AllocK w132 (#[.int .i64 0, .int .i64 0, .pointer none]) 95 fun b133 w134 =>
                              Below w90.heap.size w90 w134 ∧
                              (AllocK w134 (#[.int .i64 0, .int .i64 0, .pointer none]) 95 fun b135 w136 =>
                                Below w90.heap.size w90 w136 ∧
                                (SetK w136 (b133.add 0) (.int .i64 x92) fun w137 =>
                                  SetK w137 (b133.add 1) (.int .i64 x93) fun w138 =>
                                  SetK w138 (b133.add 2) (.pointer o94) fun w139 =>
                                  Below w90.heap.size w90 w139 ∧
                                  (SetK w139 (b131.add 0) (.int .i64 x96) fun w140 =>
                                    SetK w140 (b131.add 1) (.int .i64 x97) fun w141 =>
                                    SetK w141 (b131.add 2) (.pointer o98) fun w142 =>
                                    Below w90.heap.size w90 w142 ∧
                                    (SetK w142 (b135.add 0) (.int .i64 x100) fun w143 =>
                                      SetK w143 (b135.add 1) (.int .i64 x101) fun w144 =>
                                      SetK w144 (b135.add 2) (.pointer o102) fun w145 =>
                                      Below w90.heap.size w90 w145 ∧
                                      (J10 (some b133) (some b131) (some b135) w145)))))) ∧
                            (AllocK w132 (#[.int .i64 0, .int .i64 0, .pointer none]) 95 fun b146 w147 =>
                              Below w90.heap.size w90 w147 ∧
                              (AllocK w147 (#[.int .i64 0, .int .i64 0, .pointer none]) 95 fun b148 w149 =>
                                Below w90.heap.size w90 w149 ∧
                                (SetK w149 (b148.add 0) (.int .i64 x92) fun w150 =>
                                  SetK w150 (b148.add 1) (.int .i64 x93) fun w151 =>
                                  SetK w151 (b148.add 2) (.pointer o94) fun w152 =>
                                  Below w90.heap.size w90 w152 ∧
                                  (SetK w152 (b131.add 0) (.int .i64 x96) fun w153 =>
                                    SetK w153 (b131.add 1) (.int .i64 x97) fun w154 =>
                                    SetK w154 (b131.add 2) (.pointer o98) fun w155 =>
                                    Below w90.heap.size w90 w155 ∧
                                    (SetK w155 (b146.add 0) (.int .i64 x100) fun w156 =>
                                      SetK w156 (b146.add 1) (.int .i64 x101) fun w157 =>
                                      SetK w157 (b146.add 2) (.pointer o102) fun w158 =>
                                      Below w90.heap.size w90 w158 ∧
                                      (J10 (some b148) (some b131) (some b146) w158)))))))) ∧
                        (AllocK w90 (#[.int .i64 0, .int .i64 0, .pointer none]) 95 fun b159 w160 =>
                          Below w90.heap.size w90 w160 ∧
                          ((AllocK w160 (#[.int .i64 0, .int .i64 0, .pointer none]) 95 fun b161 w162 =>
                              Below w90.heap.size w90 w162 ∧
                              (AllocK w162 (#[.int .i64 0, .int .i64 0, .pointer none]) 95 fun b163 w164 =>
                                Below w90.heap.size w90 w164 ∧
                                (SetK w164 (b161.add 0) (.int .i64 x92) fun w165 =>
                                  SetK w165 (b161.add 1) (.int .i64 x93) fun w166 =>
                                  SetK w166 (b161.add 2) (.pointer o94) fun w167 =>
                                  Below w90.heap.size w90 w167 ∧
                                  (SetK w167 (b163.add 0) (.int .i64 x96) fun w168 =>
                                    SetK w168 (b163.add 1) (.int .i64 x97) fun w169 =>
                                    SetK w169 (b163.add 2) (.pointer o98) fun w170 =>
                                    Below w90.heap.size w90 w170 ∧
                                    (SetK w170 (b159.add 0) (.int .i64 x100) fun w171 =>
                                      SetK w171 (b159.add 1) (.int .i64 x101) fun w172 =>
                                      SetK w172 (b159.add 2) (.pointer o102) fun w173 =>
                                      Below w90.heap.size w90 w173 ∧
                                      (J10 (some b161) (some b163) (some b159) w173)))))) ∧
                            (AllocK w160 (#[.int .i64 0, .int .i64 0, .pointer none]) 95 fun b174 w175 =>
                              Below w90.heap.size w90 w175 ∧
                              (AllocK w175 (#[.int .i64 0, .int .i64 0, .pointer none]) 95 fun b176 w177 =>
                                Below w90.heap.size w90 w177 ∧
                                (SetK w177 (b176.add 0) (.int .i64 x92) fun w178 =>
                                  SetK w178 (b176.add 1) (.int .i64 x93) fun w179 =>
                                  SetK w179 (b176.add 2) (.pointer o94) fun w180 =>
                                  Below w90.heap.size w90 w180 ∧
                                  (SetK w180 (b174.add 0) (.int .i64 x96) fun w181 =>
                                    SetK w181 (b174.add 1) (.int .i64 x97) fun w182 =>
                                    SetK w182 (b174.add 2) (.pointer o98) fun w183 =>
                                    Below w90.heap.size w90 w183 ∧
                                    (SetK w183 (b159.add 0) (.int .i64 x100) fun w184 =>
                                      SetK w184 (b159.add 1) (.int .i64 x101) fun w185 =>
                                      SetK w185 (b159.add 2) (.pointer o102) fun w186 =>
                                      Below w90.heap.size w90 w186 ∧
                                      (J10 (some b176) (some b174) (some b159) w186)))))))))))))))))))
def ann91 : Ann := (.two .nil (.cut [(9, (.one .ptr)), (10, (.one .ptr)), (11, (.one .ptr))] [2, 3, 4] (.any 15 (.take 0 (.take 1 (.take 2 (.take 3 (.take 4 (.take 5 (.take 6 (.take 7 (.take 8 (.both 9 (.both 10 (.one 11 (.one 12 (.one 13 (.one 14 .done)))) (.one 11 (.one 10 (.one 12 (.one 13 (.one 14 .done)))))) (.both 10 (.both 9 (.one 11 (.one 12 (.one 13 (.one 14 .done)))) (.one 11 (.one 9 (.one 12 (.one 13 (.one 14 .done)))))) (.one 11 (.both 9 (.one 10 (.one 12 (.one 13 (.one 14 .done)))) (.one 10 (.one 9 (.one 12 (.one 13 (.one 14 .done))))))))))))))))))) (.two (.two .nil (.one (.two .nil (.two (.two .nil .nil) (.two .nil (.two (.two .nil .nil) .nil)))))) (.two .nil .nil))))
noncomputable def code91 : Code := match Try.f91.body with | some c => c | none => .skip
theorem wp91 (s1 : ByteArray) (a2 : Option Addr) (l2 : Nat) (c2 : Nat) (a3 : Option Addr) (l3 : Nat) (c3 : Nat) (x4 : Int) (a5 : Option Addr) (l5 : Nat) (c5 : Nat) (x6 : Int) (x7 : Int) (K : Bool → World → Prop) (w : World) : WP Try.prog tab code91 ann91 (fnQ tab Try.f91.results.toList [(.one .bool)] K) (argE 0 [(.agg #[(.string s1), (.slice a2 l2 c2), (.slice a3 l3 c3), (.int .i64 x4)]), (.slice a5 l5 c5), (.int .i64 x6), (.int .i64 x7)]) w = N91 s1 a2 l2 c2 a3 l3 c3 x4 a5 l5 c5 x6 x7 K w := by kernel_rfl
theorem calls91 (s1 : ByteArray) (a2 : Option Addr) (l2 : Nat) (c2 : Nat) (a3 : Option Addr) (l3 : Nat) (c3 : Nat) (x4 : Int) (a5 : Option Addr) (l5 : Nat) (c5 : Nat) (x6 : Int) (x7 : Int) (K : Bool → World → Prop) (w : World) (h : N91 s1 a2 l2 c2 a3 l3 c3 x4 a5 l5 c5 x6 x7 K w) : Calls Try.prog 91 #[(.agg #[(.string s1), (.slice a2 l2 c2), (.slice a3 l3 c3), (.int .i64 x4)]), (.slice a5 l5 c5), (.int .i64 x6), (.int .i64 x7)] w fun en w' => ∃ (p187 : Bool), en = .returned (.bool p187) ∧ K p187 w' :=
  have e : (fun en w' => ExShs [(.one .bool)] fun vs => en = .returned (tupled vs) ∧ ap [(.one .bool)] K vs fun p => p w') = (fun (en : Ending) (w' : World) => ∃ (p187 : Bool), en = .returned (.bool p187) ∧ K p187 w') := by kernel_rfl
  e ▸ fn_sound tabOk mixed Try.func91 (by kernel_rfl : Try.f91.body = some code91) ann91 [(.agg #[(.string s1), (.slice a2 l2 c2), (.slice a3 l3 c3), (.int .i64 x4)]), (.slice a5 l5 c5), (.int .i64 x6), (.int .i64 x7)] [(.one .bool)] K w (by kernel_rfl) ((wp91 s1 a2 l2 c2 a3 l3 c3 x4 a5 l5 c5 x6 x7 K w).symm ▸ h)
end Go.Proofs.Ytggfnakhmjkoeaa

namespace Go.Proofs.Ytggfnakhmjkoeaa
open Go Go.V Go.Proofs
open Go.RowKit (Below)

/-- three cells of a block are set -/
theorem set3 {w : World} {b t : Nat} {z0 z1 z2 v0 v1 v2 : Value} (h : Blk w b #[z0, z1, z2] t) {F : World → Prop} (k : ∀ w', Blk w' b #[v0, v1, v2] t → But b w w' → F w') :
    SetK w (Addr.add ⟨b, 0, none⟩ 0) v0 fun w1 => SetK w1 (Addr.add ⟨b, 0, none⟩ 1) v1 fun w2 => SetK w2 (Addr.add ⟨b, 0, none⟩ 2) v2 F := by
  rw [add_mk, add_mk, add_mk]
  refine SetK.mk h (by simp) fun w1 h1 g1 => SetK.mk h1 (by simp) fun w2 h2 g2 => SetK.mk h2 (by simp) fun w3 h3 g3 => k w3 (by simpa using h3) ((g1.trans g2).trans g3)

/-- the three places of a propagator are laid into three blocks -/
theorem leaf3 {w0 w : World} {q1 q2 q3 t : Nat} {z0 z1 z2 x0 x1 x2 y0 y1 y2 u0 u1 u2 : Value} (h1 : Blk w q1 #[z0, z1, z2] t) (h2 : Blk w q2 #[z0, z1, z2] t) (h3 : Blk w q3 #[z0, z1, z2] t)
    (n12 : q1 ≠ q2) (n13 : q1 ≠ q3) (n23 : q2 ≠ q3) (hB : Ext w0 w) (g1 : w0.heap.size ≤ q1) (g2 : w0.heap.size ≤ q2) (g3 : w0.heap.size ≤ q3) {G : World → Prop}
    (k : ∀ w', Blk w' q1 #[x0, x1, x2] t → Blk w' q2 #[y0, y1, y2] t → Blk w' q3 #[u0, u1, u2] t → Ext w0 w' → G w') :
    SetK w (Addr.add ⟨q1, 0, none⟩ 0) x0 fun w1 => SetK w1 (Addr.add ⟨q1, 0, none⟩ 1) x1 fun w2 => SetK w2 (Addr.add ⟨q1, 0, none⟩ 2) x2 fun w3 => Below w0.heap.size w0 w3 ∧
    (SetK w3 (Addr.add ⟨q2, 0, none⟩ 0) y0 fun w1 => SetK w1 (Addr.add ⟨q2, 0, none⟩ 1) y1 fun w2 => SetK w2 (Addr.add ⟨q2, 0, none⟩ 2) y2 fun w3 => Below w0.heap.size w0 w3 ∧
    (SetK w3 (Addr.add ⟨q3, 0, none⟩ 0) u0 fun w1 => SetK w1 (Addr.add ⟨q3, 0, none⟩ 1) u1 fun w2 => SetK w2 (Addr.add ⟨q3, 0, none⟩ 2) u2 fun w3 => Below w0.heap.size w0 w3 ∧ G w3)) := by
  refine set3 h1 fun w1 e1 b1 => ⟨b1.below hB g1, set3 (b1.blk h2 n12.symm) fun w2 e2 b2 => ⟨b2.below (b1.below hB g1) g2, set3 (b2.blk (b1.blk h3 n13.symm) n23.symm) fun w3 e3 b3 => ?_⟩⟩
  have hx : Ext w0 w3 := b3.below (b2.below (b1.below hB g1) g2) g3
  exact ⟨hx, k w3 (b3.blk (b2.blk e1 n12) n13) (b3.blk e2 n23) e3 hx⟩

theorem c91 (w : World) (s : ByteArray) (a2 : Option Addr) (l2 c2 : Nat) (a3 : Option Addr) (l3 c3 : Nat) (x4 : Int) (p : PropS) (h : PropAt w s a2 l2 a3 l3 x4 p)
    (a5 : Option Addr) (l5 c5 : Nat) (d0 d1 d2 : Dm) (hb : Bnds w a5 l5 [d0, d1, d2]) (f0 : Full d0) (f1 : Full d1) (f2 : Full d2) (hN : rng p.n = true) (i v : Nat) (hi : i < 3) (hv : v ≤ 1000) :
    Calls Try.prog 91 #[.agg #[.string s, .slice a2 l2 c2, .slice a3 l3 c3, .int .i64 x4], .slice a5 l5 c5, .int .i64 i, .int .i64 v] w fun en w' => ∃ r, en = .returned (.bool r) ∧ (r = reifS p.n d0 d1 d2 i v ∧ Ext w w') := by
  obtain ⟨rfl, _, _, rfl, _, _⟩ := h
  have hN' := of_decide_eq_true hN
  have ⟨_, m0, m1⟩ := f0.ends
  have ⟨_, m2, m3⟩ := f1.ends
  have ⟨_, m4, m5⟩ := f2.ends
  have hl5 : l5 = 3 := hb.1
  subst hl5
  refine calls91 _ _ _ _ _ _ _ _ _ _ _ _ _ _ w ?_
  refine AllocK.mk fun b8 w9 hb8 hblk hx => ?_
  refine ⟨fun o1 o2 o3 w' => Ext w9 w' ∧ ∃ q1 q2 q3 p1, o1 = some ⟨q1, 0, none⟩ ∧ o2 = some ⟨q2, 0, none⟩ ∧ o3 = some ⟨q3, 0, none⟩ ∧
    Blk w' q1 #[.int .i64 (mn d0), .int .i64 (mx d0), .pointer p1] 95 ∧ (∃ p2, Blk w' q2 #[.int .i64 (mn d1), .int .i64 (mx d1), .pointer p2] 95) ∧ (∃ p3, Blk w' q3 #[.int .i64 (mn d2), .int .i64 (mx d2), .pointer p3] 95), ?_, ?_⟩
  · rintro w11 _ _ _ ⟨hx11, q1, q2, q3, p1, rfl, rfl, rfl, hb, ⟨p2, hxb⟩, ⟨p3, hyb⟩⟩
    have hc := fun (w' : World) (k : Ext w11 w') => (cell4 (hblk.ext (hx11.trans k))).2.2.2
    have hq1 := fun (w' : World) (k : Ext w11 w') => cell3 (hb.ext k)
    have hq2 := fun (w' : World) (k : Ext w11 w') => cell3 (hxb.ext k)
    have hq3 := fun (w' : World) (k : Ext w11 w') => cell3 (hyb.ext k)
    have hxx := hx.trans hx11
    have r0 := Ext.refl w11
    simp only [add_mk, Nat.zero_add]
    refine BoolK.mk (fun t => ?_) (fun t => ?_)
    · have : i = 0 := by simpa using t
      subst this
      rw [reifS, if_pos rfl]
      have key : ∀ r, (r = (decide ((v : Int) = 0) && decide (mx d1 > mn d2 + p.n))) → ¬ ((v : Int) = 1 ∧ mn d1 ≤ mx d2 + p.n) →
          (r = (decide ((v : Int) = 1) && decide (mn d1 ≤ mx d2 + p.n) || decide ((v : Int) = 0) && decide (mx d1 > mn d2 + p.n)) ∧ Ext w w11) := fun r hr hn => by
        refine ⟨?_, hxx⟩
        rw [hr, ← Bool.decide_and (p := (v : Int) = 1), decide_eq_false hn, Bool.false_or]
      have zero : ∀ (hn : ¬ ((v : Int) = 1 ∧ mn d1 ≤ mx d2 + p.n)), BoolK ((v : Int) == 0)
          (∃ x26, w11.cell? ⟨q2, 1, none⟩ = some (.int .i64 x26) ∧ ∃ x28, w11.cell? ⟨q3, 0, none⟩ = some (.int .i64 x28) ∧ ∃ x29, w11.cell? ⟨b8, 3, none⟩ = some (.int .i64 x29) ∧
            (decide (x26 > IntKind.wrap .i64 (x28 + x29)) = (decide ((v : Int) = 1) && decide (mn d1 ≤ mx d2 + p.n) || decide ((v : Int) = 0) && decide (mx d1 > mn d2 + p.n)) ∧ Ext w w11))
          (false = (decide ((v : Int) = 1) && decide (mn d1 ≤ mx d2 + p.n) || decide ((v : Int) = 0) && decide (mx d1 > mn d2 + p.n)) ∧ Ext w w11) := fun hn => by
        refine BoolK.mk (fun t2 => ?_) (fun t2 => ?_)
        · refine ⟨_, (hq2 _ r0).2.1, _, (hq3 _ r0).1, _, hc _ r0, key _ ?_ hn⟩
          rw [wrap_id (by omega) (by omega), decide_eq_true (show (v : Int) = 0 by simpa using t2)]; rfl
        · exact key _ (by rw [decide_eq_false (show ¬ (v : Int) = 0 by simpa using t2)]; rfl) hn
      refine BoolK.mk (fun t1 => ?_) (fun t1 => ?_)
      · refine ⟨_, (hq2 _ r0).1, _, (hq3 _ r0).2.1, _, hc _ r0, ?_⟩
        rw [wrap_id (by omega) (by omega)]
        refine BoolK.mk (fun t2 => ?_) (fun t2 => ?_)
        · refine ⟨?_, hxx⟩
          rw [t2, decide_eq_true (show (v : Int) = 1 by simpa using t1)]; rfl
        · exact zero (fun e => by simp at t2; omega)
      · exact zero (fun e => by simp at t1; omega)
    · have hi0 : i ≠ 0 := by simpa using t
      rw [reifS, if_neg hi0]
      refine BoolK.mk (fun t1 => ?_) (fun t1 => ?_)
      · have : i = 1 := by simp at t1; omega
        subst this
        rw [if_pos rfl]
        refine ⟨_, (hq1 _ r0).1, _, (hq1 _ r0).2.1, _, (hq1 _ r0).2.2, (c89 w11 _ _ _ _).mono ?_⟩
        rintro en w35 ⟨r, rfl, hr, hx35⟩
        have last : (!(oneB d0 1 && decide ((v : Int) > mx d2 + p.n))) = true → (∃ x41, w35.cell? ⟨q1, 0, none⟩ = some (.int .i64 x41) ∧ ∃ x42, w35.cell? ⟨q1, 1, none⟩ = some (.int .i64 x42) ∧ ∃ o43, w35.cell? ⟨q1, 2, none⟩ = some (.pointer o43) ∧
            Calls Try.prog 89 #[.agg #[.int .i64 x41, .int .i64 x42, .pointer o43], .int .i64 0] w35 fun e46 w45 => ∃ p44, e46 = .returned (.bool p44) ∧ BoolK p44
              (∃ x48, w45.cell? ⟨q3, 0, none⟩ = some (.int .i64 x48) ∧ ∃ x49, w45.cell? ⟨b8, 3, none⟩ = some (.int .i64 x49) ∧
                ((!(decide ((v : Int) ≤ IntKind.wrap .i64 (x48 + x49)))) = (!(oneB d0 1 && decide ((v : Int) > mx d2 + p.n)) && !(oneB d0 0 && decide ((v : Int) ≤ mn d2 + p.n))) ∧ Ext w w45))
              (true = (!(oneB d0 1 && decide ((v : Int) > mx d2 + p.n)) && !(oneB d0 0 && decide ((v : Int) ≤ mn d2 + p.n))) ∧ Ext w w45)) := fun hh => by
          refine ⟨_, (hq1 _ hx35).1, _, (hq1 _ hx35).2.1, _, (hq1 _ hx35).2.2, (c89 w35 _ _ _ _).mono ?_⟩
          rintro en w45 ⟨r', rfl, hr', hx45⟩
          have e0 : r' = oneB d0 0 := hr'
          subst e0
          have hx45' := hx35.trans hx45
          rw [hh, Bool.true_and]
          refine ⟨_, rfl, BoolK.mk (fun t2 => ?_) (fun t2 => ?_)⟩
          · refine ⟨_, (hq3 _ hx45').1, _, hc _ hx45', ?_, hxx.trans hx45'⟩
            rw [wrap_id (by omega) (by omega), t2, Bool.true_and]
          · exact ⟨by rw [t2]; rfl, hxx.trans hx45'⟩
        have e1 : r = oneB d0 1 := hr
        subst e1
        refine ⟨_, rfl, BoolK.mk (fun t2 => ?_) (fun t2 => ?_)⟩
        · refine ⟨_, (hq3 _ hx35).2.1, _, hc _ hx35, ?_⟩
          rw [wrap_id (by omega) (by omega)]
          refine BoolK.mk (fun t3 => ?_) (fun t3 => ?_)
          · exact last (by rw [t2, Bool.true_and]; exact t3)
          · exact ⟨by rw [t2, Bool.true_and, t3]; rfl, hxx.trans hx35⟩
        · exact last (by rw [t2]; rfl)
      · have hi1 : i ≠ 1 := by simp at t1; omega
        rw [if_neg hi1]
        refine ⟨_, (hq1 _ r0).1, _, (hq1 _ r0).2.1, _, (hq1 _ r0).2.2, (c89 w11 _ _ _ _).mono ?_⟩
        rintro en w35 ⟨r, rfl, hr, hx35⟩
        have last : (!(oneB d0 1 && decide (mn d1 > (v : Int) + p.n))) = true → (∃ x41, w35.cell? ⟨q1, 0, none⟩ = some (.int .i64 x41) ∧ ∃ x42, w35.cell? ⟨q1, 1, none⟩ = some (.int .i64 x42) ∧ ∃ o43, w35.cell? ⟨q1, 2, none⟩ = some (.pointer o43) ∧
            Calls Try.prog 89 #[.agg #[.int .i64 x41, .int .i64 x42, .pointer o43], .int .i64 0] w35 fun e46 w45 => ∃ p44, e46 = .returned (.bool p44) ∧ BoolK p44
              (∃ x48, w45.cell? ⟨q2, 1, none⟩ = some (.int .i64 x48) ∧ ∃ x49, w45.cell? ⟨b8, 3, none⟩ = some (.int .i64 x49) ∧
                ((!(decide (x48 ≤ IntKind.wrap .i64 (v + x49)))) = (!(oneB d0 1 && decide (mn d1 > (v : Int) + p.n)) && !(oneB d0 0 && decide (mx d1 ≤ (v : Int) + p.n))) ∧ Ext w w45))
              (true = (!(oneB d0 1 && decide (mn d1 > (v : Int) + p.n)) && !(oneB d0 0 && decide (mx d1 ≤ (v : Int) + p.n))) ∧ Ext w w45)) := fun hh => by
          refine ⟨_, (hq1 _ hx35).1, _, (hq1 _ hx35).2.1, _, (hq1 _ hx35).2.2, (c89 w35 _ _ _ _).mono ?_⟩
          rintro en w45 ⟨r', rfl, hr', hx45⟩
          have e0 : r' = oneB d0 0 := hr'
          subst e0
          have hx45' := hx35.trans hx45
          rw [hh, Bool.true_and]
          refine ⟨_, rfl, BoolK.mk (fun t2 => ?_) (fun t2 => ?_)⟩
          · refine ⟨_, (hq2 _ hx45').2.1, _, hc _ hx45', ?_, hxx.trans hx45'⟩
            rw [wrap_id (by omega) (by omega), t2, Bool.true_and]
          · exact ⟨by rw [t2]; rfl, hxx.trans hx45'⟩
        have e1 : r = oneB d0 1 := hr
        subst e1
        refine ⟨_, rfl, BoolK.mk (fun t2 => ?_) (fun t2 => ?_)⟩
        · refine ⟨_, (hq2 _ hx35).1, _, hc _ hx35, ?_⟩
          rw [wrap_id (by omega) (by omega)]
          refine BoolK.mk (fun t3 => ?_) (fun t3 => ?_)
          · exact last (by rw [t2, Bool.true_and]; exact t3)
          · exact ⟨by rw [t2, Bool.true_and, t3]; rfl, hxx.trans hx35⟩
        · exact last (by rw [t2]; rfl)
  · refine DrewK.mk fun w90 hx90 => ?_
    obtain ⟨b, o, s0, rfl, g00, g01, g02, _⟩ := bndAt hb w90 (hx.trans hx90) (i := 0) (by simp)
    obtain ⟨b', o', s1, ha', g10, g11, g12, _⟩ := bndAt hb w90 (hx.trans hx90) (i := 1) (by simp)
    simp at ha'; obtain ⟨rfl, rfl⟩ := ha'
    obtain ⟨b', o', s2, ha', g20, g21, g22, _⟩ := bndAt hb w90 (hx.trans hx90) (i := 2) (by simp)
    simp at ha'; obtain ⟨rfl, rfl⟩ := ha'
    simp only [List.getElem_cons_zero, List.getElem_cons_succ] at g00 g01 g02 g10 g11 g12 g20 g21 g22
    refine ⟨by omega, ?_⟩
    simp only [Int.toNat_zero, Int.toNat_one]
    refine ⟨_, g00, _, g01, _, g02, by omega, _, g10, _, g11, _, g12, by omega, _, g20, _, g21, _, g22, ?_⟩
    refine ⟨AllocK.mk fun p1 w1 k1 e1 x1 => ⟨x1, AllocK.mk fun p2 w2 k2 e2 x2 => ⟨x1.trans x2, AllocK.mk fun p3 w3 k3 e3 x3 => ⟨(x1.trans x2).trans x3, ?_⟩⟩, AllocK.mk fun p2 w2 k2 e2 x2 => ⟨x1.trans x2, AllocK.mk fun p3 w3 k3 e3 x3 => ⟨(x1.trans x2).trans x3, ?_⟩⟩⟩,
      ⟨AllocK.mk fun p1 w1 k1 e1 x1 => ⟨x1, AllocK.mk fun p2 w2 k2 e2 x2 => ⟨x1.trans x2, AllocK.mk fun p3 w3 k3 e3 x3 => ⟨(x1.trans x2).trans x3, ?_⟩⟩, AllocK.mk fun p2 w2 k2 e2 x2 => ⟨x1.trans x2, AllocK.mk fun p3 w3 k3 e3 x3 => ⟨(x1.trans x2).trans x3, ?_⟩⟩⟩,
       AllocK.mk fun p1 w1 k1 e1 x1 => ⟨x1, AllocK.mk fun p2 w2 k2 e2 x2 => ⟨x1.trans x2, AllocK.mk fun p3 w3 k3 e3 x3 => ⟨(x1.trans x2).trans x3, ?_⟩⟩, AllocK.mk fun p2 w2 k2 e2 x2 => ⟨x1.trans x2, AllocK.mk fun p3 w3 k3 e3 x3 => ⟨(x1.trans x2).trans x3, ?_⟩⟩⟩⟩⟩
    all_goals
      have hz1 := x1.size
      have hz2 := x2.size
      have l1 := e1.lt
      have l2 := e2.lt
      have E1 := (e1.ext x2).ext x3
      have E2 := e2.ext x3
      simp only [add_mk, Nat.zero_add]
      have L := @leaf3 w90 w3
      simp only [add_mk, Nat.zero_add] at L
    · exact L E1 E2 e3 (by omega) (by omega) (by omega) ((x1.trans x2).trans x3) (by omega) (by omega) (by omega) fun w' a b c d => ⟨hx90.trans d, _, _, _, _, rfl, rfl, rfl, a, ⟨_, b⟩, ⟨_, c⟩⟩
    · exact L E1 e3 E2 (by omega) (by omega) (by omega) ((x1.trans x2).trans x3) (by omega) (by omega) (by omega) fun w' a b c d => ⟨hx90.trans d, _, _, _, _, rfl, rfl, rfl, a, ⟨_, b⟩, ⟨_, c⟩⟩
    · exact L E2 E1 e3 (by omega) (by omega) (by omega) ((x1.trans x2).trans x3) (by omega) (by omega) (by omega) fun w' a b c d => ⟨hx90.trans d, _, _, _, _, rfl, rfl, rfl, a, ⟨_, b⟩, ⟨_, c⟩⟩
    · exact L e3 E1 E2 (by omega) (by omega) (by omega) ((x1.trans x2).trans x3) (by omega) (by omega) (by omega) fun w' a b c d => ⟨hx90.trans d, _, _, _, _, rfl, rfl, rfl, a, ⟨_, b⟩, ⟨_, c⟩⟩
    · exact L E2 e3 E1 (by omega) (by omega) (by omega) ((x1.trans x2).trans x3) (by omega) (by omega) (by omega) fun w' a b c d => ⟨hx90.trans d, _, _, _, _, rfl, rfl, rfl, a, ⟨_, b⟩, ⟨_, c⟩⟩
    · exact L e3 E2 E1 (by omega) (by omega) (by omega) ((x1.trans x2).trans x3) (by omega) (by omega) (by omega) fun w' a b c d => ⟨hx90.trans d, _, _, _, _, rfl, rfl, rfl, a, ⟨_, b⟩, ⟨_, c⟩⟩
end Go.Proofs.Ytggfnakhmjkoeaa

namespace Go.Proofs.Ytggfnakhmjkoeaa
open Go Go.V Go.Proofs
open Go.RowKit (Below)
/-! manystrand/domain.passes -/
def N82 (s1 : ByteArray) (a2 : Option Addr) (l2 : Nat) (c2 : Nat) (a3 : Option Addr) (l3 : Nat) (c3 : Nat) (x4 : Int) (a5 : Option Addr) (l5 : Nat) (c5 : Nat) (x6 : Int) (x7 : Int) (K : Bool → World → Prop) (w : World) : Prop :=
  AllocK w (#[(.string s1), (.slice a2 l2 c2), (.slice a3 l3 c3), (.int .i64 x4)]) 24 fun b8 w9 =>
  ∃ (s10 : ByteArray), w9.cell? b8 = some (.string s10) ∧
  (∃ (J11 : Bool → World → Prop),
    (∀ (w12 : World) (p13 : Bool), J11 p13 w12 →
      BoolK p13
      (∃ (I14 : Int → Int → Int → World → Prop) (μ15 : Int → Int → Int → World → Nat),
        (I14 0 0 0 w12 ∧ True) ∧
        ∀ (w16 : World) (x17 : Int) (x18 : Int) (x19 : Int), I14 x17 x18 x19 w16 →
        BoolK (decide ((x19 : Int) < (l5 : Nat)))
        (BoolK ((x19 : Int) != x6)
          (DrewK w16 fun w20 =>
            (0 ≤ (x19 : Int) ∧ (x19 : Int) < (l5 : Nat)) ∧
            AddrK a5 fun b21 =>
            ∃ (x22 : Int), w20.cell? ((b21.add ((x19 : Int).toNat * 3)).add 0) = some (.int .i64 x22) ∧
            (∃ (x23 : Int), w20.cell? ((b21.add ((x19 : Int).toNat * 3)).add 1) = some (.int .i64 x23) ∧
              (∃ (o24 : Option Addr), w20.cell? ((b21.add ((x19 : Int).toNat * 3)).add 2) = some (.pointer o24) ∧
                (∃ (a25 : Option Addr) (l25 : Nat) (c25 : Nat), w20.cell? (b8.add 2) = some (.slice a25 l25 c25) ∧
                  ((0 ≤ (x19 : Int) ∧ (x19 : Int) < (l25 : Nat)) ∧
                    AddrK a25 fun b26 =>
                    ∃ (x27 : Int), w20.cell? (b26.add ((x19 : Int).toNat * 1)) = some (.int .i64 x27) ∧
                    (Calls Try.prog 88 #[(.agg #[(.int .i64 x22), (.int .i64 x23), (.pointer o24)]), (.int .i64 x27)] w20 fun e31 w30 =>
                      ∃ (x28 : Int), ∃ (x29 : Int), e31 = .returned (.tuple #[(.int .i64 x28), (.int .i64 x29)]) ∧
                      (Below w20.heap.size w20 w30 ∧
                        (I14 (IntKind.wrap .i64 (x17 + x28)) (IntKind.wrap .i64 (x18 + x29)) (IntKind.wrap .i64 (x19 + 1)) w30 ∧ μ15 (IntKind.wrap .i64 (x17 + x28)) (IntKind.wrap .i64 (x18 + x29)) (IntKind.wrap .i64 (x19 + 1)) w30 < μ15 x17 x18 x19 w16))))))))
          (I14 x17 x18 (IntKind.wrap .i64 (x19 + 1)) w16 ∧ μ15 x17 x18 (IntKind.wrap .i64 (x19 + 1)) w16 < μ15 x17 x18 x19 w16))
        (DrewK w16 fun w32 =>
          ∃ (x33 : Int), w32.cell? (b8.add 3) = some (.int .i64 x33) ∧
          (∃ (a34 : Option Addr) (l34 : Nat) (c34 : Nat), w32.cell? (b8.add 2) = some (.slice a34 l34 c34) ∧
            ((0 ≤ (x6 : Int) ∧ (x6 : Int) < (l34 : Nat)) ∧
              AddrK a34 fun b35 =>
              ∃ (x36 : Int), w32.cell? (b35.add ((x6 : Int).toNat * 1)) = some (.int .i64 x36) ∧
              (BoolK (decide ((x17 : Int) ≤ IntKind.wrap .i64 (x33 - (IntKind.wrap .i64 (x36 * x7)))))
                (∃ (s37 : ByteArray), w32.cell? b8 = some (.string s37) ∧
                  (BoolK ((s37 : ByteArray).toList == ((⟨#[109, 111, 115, 116]⟩ : ByteArray) : ByteArray).toList)
                    (K true w32)
                    (K (decide ((IntKind.wrap .i64 (x33 - (IntKind.wrap .i64 (x36 * x7))) : Int) ≤ x18)) w32)))
                (K false w32))))))
      (BoolK ((s10 : ByteArray).toList == ((⟨#[117, 110, 108, 105, 107, 101]⟩ : ByteArray) : ByteArray).toList)
        (BoolK ((x6 : Int) == 0)
          (DrewK w12 fun w38 =>
            (0 ≤ (1 : Int) ∧ (1 : Int) < (l5 : Nat)) ∧
            AddrK a5 fun b39 =>
            ∃ (x40 : Int), w38.cell? ((b39.add ((1 : Int).toNat * 3)).add 0) = some (.int .i64 x40) ∧
            (∃ (x41 : Int), w38.cell? ((b39.add ((1 : Int).toNat * 3)).add 1) = some (.int .i64 x41) ∧
              (∃ (o42 : Option Addr), w38.cell? ((b39.add ((1 : Int).toNat * 3)).add 2) = some (.pointer o42) ∧
                (∃ (x43 : Int), w38.cell? (b8.add 3) = some (.int .i64 x43) ∧
                  (Calls Try.prog 89 #[(.agg #[(.int .i64 x40), (.int .i64 x41), (.pointer o42)]), (.int .i64 (IntKind.wrap .i64 (x7 + x43)))] w38 fun e46 w45 =>
                    ∃ (p44 : Bool), e46 = .returned (.bool p44) ∧
                    (Below w38.heap.size w38 w45 ∧
                      (K (!p44) w45)))))))
          (DrewK w12 fun w47 =>
            (0 ≤ (0 : Int) ∧ (0 : Int) < (l5 : Nat)) ∧
            AddrK a5 fun b48 =>
            ∃ (x49 : Int), w47.cell? ((b48.add ((0 : Int).toNat * 3)).add 0) = some (.int .i64 x49) ∧
            (∃ (x50 : Int), w47.cell? ((b48.add ((0 : Int).toNat * 3)).add 1) = some (.int .i64 x50) ∧
              (∃ (o51 : Option Addr), w47.cell? ((b48.add ((0 : Int).toNat * 3)).add 2) = some (.pointer o51) ∧
                (∃ (x52 : Int), w47.cell? (b8.add 3) = some (.int .i64 x52) ∧
                  (Calls Try.prog 89 #[(.agg #[(.int .i64 x49), (.int .i64 x50), (.pointer o51)]), (.int .i64 (IntKind.wrap .i64 (x7 - x52)))] w47 fun e55 w54 =>
                    ∃ (p53 : Bool), e55 = .returned (.bool p53) ∧
                    (Below w47.heap.size w47 w54 ∧
                      (K (!p53) w54))))))))
        (BoolK ((s10 : ByteArray).toList == ((⟨#[100, 105, 115, 116, 105, 110, 99, 116]⟩ : ByteArray) : ByteArray).toList)
          (∃ (I56 : Int → World → Prop) (μ57 : Int → World → Nat),
            (I56 0 w12 ∧ True) ∧
            ∀ (w58 : World) (x59 : Int), I56 x59 w58 →
            BoolK (decide ((x59 : Int) < (l5 : Nat)))
            (BoolK ((x59 : Int) != x6)
              ((0 ≤ (x59 : Int) ∧ (x59 : Int) < (l5 : Nat)) ∧
                AddrK a5 fun b60 =>
                ∃ (x61 : Int), w58.cell? ((b60.add ((x59 : Int).toNat * 3)).add 0) = some (.int .i64 x61) ∧
                (∃ (x62 : Int), w58.cell? ((b60.add ((x59 : Int).toNat * 3)).add 1) = some (.int .i64 x62) ∧
                  (∃ (o63 : Option Addr), w58.cell? ((b60.add ((x59 : Int).toNat * 3)).add 2) = some (.pointer o63) ∧
                    (Calls Try.prog 89 #[(.agg #[(.int .i64 x61), (.int .i64 x62), (.pointer o63)]), (.int .i64 x7)] w58 fun e66 w65 =>
                      ∃ (p64 : Bool), e66 = .returned (.bool p64) ∧
                      (BoolK p64
                        (K false w65)
                        (I56 (IntKind.wrap .i64 (x59 + 1)) w65 ∧ μ57 (IntKind.wrap .i64 (x59 + 1)) w65 < μ57 x59 w58))))))
              (I56 (IntKind.wrap .i64 (x59 + 1)) w58 ∧ μ57 (IntKind.wrap .i64 (x59 + 1)) w58 < μ57 x59 w58))
            (K true w58))
          (BoolK ((s10 : ByteArray).toList == ((⟨#[112, 114, 111, 100, 117, 99, 116]⟩ : ByteArray) : ByteArray).toList)
            (BoolK ((x6 : Int) == 2)
              (DrewK w12 fun w67 =>
                (0 ≤ (0 : Int) ∧ (0 : Int) < (l5 : Nat)) ∧
                AddrK a5 fun b68 =>
                ∃ (x69 : Int), w67.cell? (b68.add ((0 : Int).toNat * 3)) = some (.int .i64 x69) ∧
                ((0 ≤ (1 : Int) ∧ (1 : Int) < (l5 : Nat)) ∧
                  AddrK a5 fun b70 =>
                  ∃ (x71 : Int), w67.cell? (b70.add ((1 : Int).toNat * 3)) = some (.int .i64 x71) ∧
                  (BoolK (decide ((IntKind.wrap .i64 (x69 * x71) : Int) ≤ x7))
                    ((0 ≤ (0 : Int) ∧ (0 : Int) < (l5 : Nat)) ∧
                      AddrK a5 fun b72 =>
                      ∃ (x73 : Int), w67.cell? ((b72.add ((0 : Int).toNat * 3)).add 1) = some (.int .i64 x73) ∧
                      ((0 ≤ (1 : Int) ∧ (1 : Int) < (l5 : Nat)) ∧
                        AddrK a5 fun b74 =>
                        ∃ (x75 : Int), w67.cell? ((b74.add ((1 : Int).toNat * 3)).add 1) = some (.int .i64 x75) ∧
                        (K (decide ((x7 : Int) ≤ IntKind.wrap .i64 (x73 * x75))) w67)))
                    (K false w67))))
              ((0 ≤ (IntKind.wrap .i64 (1 - x6) : Int) ∧ (IntKind.wrap .i64 (1 - x6) : Int) < (l5 : Nat)) ∧
                AddrK a5 fun b76 =>
                ∃ (x77 : Int), w12.cell? ((b76.add ((IntKind.wrap .i64 (1 - x6) : Int).toNat * 3)).add 0) = some (.int .i64 x77) ∧
                (∃ (x78 : Int), w12.cell? ((b76.add ((IntKind.wrap .i64 (1 - x6) : Int).toNat * 3)).add 1) = some (.int .i64 x78) ∧
                  (∃ (o79 : Option Addr), w12.cell? ((b76.add ((IntKind.wrap .i64 (1 - x6) : Int).toNat * 3)).add 2) = some (.pointer o79) ∧
                    (AllocK w12 (#[.int .i64 0, .int .i64 0, .pointer none]) 95 fun b80 w81 =>
                      SetK w81 (b80.add 0) (.int .i64 x77) fun w82 =>
                      SetK w82 (b80.add 1) (.int .i64 x78) fun w83 =>
                      SetK w83 (b80.add 2) (.pointer o79) fun w84 =>
                      DrewK w84 fun w85 =>
                      ∃ (x86 : Int), w85.cell? b80 = some (.int .i64 x86) ∧
                      ((0 ≤ (2 : Int) ∧ (2 : Int) < (l5 : Nat)) ∧
                        AddrK a5 fun b87 =>
                        ∃ (x88 : Int), w85.cell? ((b87.add ((2 : Int).toNat * 3)).add 1) = some (.int .i64 x88) ∧
                        (BoolK (decide ((IntKind.wrap .i64 (x7 * x86) : Int) ≤ x88))
                          (∃ (x89 : Int), w85.cell? (b80.add 1) = some (.int .i64 x89) ∧
                            ((0 ≤ (2 : Int) ∧ (2 : Int) < (l5 : Nat)) ∧
                              AddrK a5 fun b90 =>
                              ∃ (x91 : Int), w85.cell? (b90.add ((2 : Int).toNat * 3)) = some (.int .i64 x91) ∧
                              (K (decide ((IntKind.wrap .i64 (x7 * x89) : Int) ≥ x91)) w85)))
                          (K false w85))))))))
            (BoolK ((s10 : ByteArray).toList == ((⟨#[101, 108, 101, 109, 101, 110, 116]⟩ : ByteArray) : ByteArray).toList)
              (BoolK ((x6 : Int) == 0)
                (DrewK w12 fun w92 =>
                  BoolK (decide ((x7 : Int) ≥ 1))
                  (∃ (a93 : Option Addr) (l93 : Nat) (c93 : Nat), w92.cell? (b8.add 2) = some (.slice a93 l93 c93) ∧
                    (BoolK (decide ((x7 : Int) ≤ (l93 : Nat)))
                      ((0 ≤ (1 : Int) ∧ (1 : Int) < (l5 : Nat)) ∧
                        AddrK a5 fun b94 =>
                        ∃ (x95 : Int), w92.cell? ((b94.add ((1 : Int).toNat * 3)).add 0) = some (.int .i64 x95) ∧
                        (∃ (x96 : Int), w92.cell? ((b94.add ((1 : Int).toNat * 3)).add 1) = some (.int .i64 x96) ∧
                          (∃ (o97 : Option Addr), w92.cell? ((b94.add ((1 : Int).toNat * 3)).add 2) = some (.pointer o97) ∧
                            (∃ (a98 : Option Addr) (l98 : Nat) (c98 : Nat), w92.cell? (b8.add 2) = some (.slice a98 l98 c98) ∧
                              ((0 ≤ (IntKind.wrap .i64 (x7 - 1) : Int) ∧ (IntKind.wrap .i64 (x7 - 1) : Int) < (l98 : Nat)) ∧
                                AddrK a98 fun b99 =>
                                ∃ (x100 : Int), w92.cell? (b99.add ((IntKind.wrap .i64 (x7 - 1) : Int).toNat * 1)) = some (.int .i64 x100) ∧
                                (Calls Try.prog 90 #[(.agg #[(.int .i64 x95), (.int .i64 x96), (.pointer o97)]), (.int .i64 x100)] w92 fun e103 w102 =>
                                  ∃ (p101 : Bool), e103 = .returned (.bool p101) ∧
                                  (Below w92.heap.size w92 w102 ∧
                                    (K p101 w102))))))))
                      (K false w92)))
                  (K false w92))
                (∃ (a104 : Option Addr) (l104 : Nat) (c104 : Nat), w12.cell? (b8.add 2) = some (.slice a104 l104 c104) ∧
                  (∃ (I105 : Int → World → Prop) (μ106 : Int → World → Nat),
                    (I105 0 w12 ∧ True) ∧
                    ∀ (w107 : World) (x108 : Int), I105 x108 w107 →
                    BoolK (decide ((x108 : Int) < (l104 : Nat)))
                    ((0 ≤ (x108 : Int) ∧ (x108 : Int) < (l104 : Nat)) ∧
                      AddrK a104 fun b109 =>
                      ∃ (x110 : Int), w107.cell? (b109.add ((x108 : Int).toNat * 1)) = some (.int .i64 x110) ∧
                      (BoolK ((x110 : Int) == x7)
                        ((0 ≤ (0 : Int) ∧ (0 : Int) < (l5 : Nat)) ∧
                          AddrK a5 fun b111 =>
                          ∃ (x112 : Int), w107.cell? ((b111.add ((0 : Int).toNat * 3)).add 0) = some (.int .i64 x112) ∧
                          (∃ (x113 : Int), w107.cell? ((b111.add ((0 : Int).toNat * 3)).add 1) = some (.int .i64 x113) ∧
                            (∃ (o114 : Option Addr), w107.cell? ((b111.add ((0 : Int).toNat * 3)).add 2) = some (.pointer o114) ∧
                              (Calls Try.prog 90 #[(.agg #[(.int .i64 x112), (.int .i64 x113), (.pointer o114)]), (.int .i64 (IntKind.wrap .i64 (x108 + 1)))] w107 fun e117 w116 =>
                                ∃ (p115 : Bool), e117 = .returned (.bool p115) ∧
                                (BoolK p115
                                  (K true w116)
                                  (I105 (IntKind.wrap .i64 (x108 + 1)) w116 ∧ μ106 (IntKind.wrap .i64 (x108 + 1)) w116 < μ106 x108 w107))))))
                        (I105 (IntKind.wrap .i64 (x108 + 1)) w107 ∧ μ106 (IntKind.wrap .i64 (x108 + 1)) w107 < μ106 x108 w107)))
                    (K false w107))))
              (BoolK ((s10 : ByteArray).toList == ((⟨#[109, 97, 120]⟩ : ByteArray) : ByteArray).toList)
                (BoolK ((x6 : Int) == 2)
                  (DrewK w12 fun w118 =>
                    (0 ≤ (0 : Int) ∧ (0 : Int) < (l5 : Nat)) ∧
                    AddrK a5 fun b119 =>
                    ∃ (x120 : Int), w118.cell? (b119.add ((0 : Int).toNat * 3)) = some (.int .i64 x120) ∧
                    ((0 ≤ (1 : Int) ∧ (1 : Int) < (l5 : Nat)) ∧
                      AddrK a5 fun b121 =>
                      ∃ (x122 : Int), w118.cell? (b121.add ((1 : Int).toNat * 3)) = some (.int .i64 x122) ∧
                      (BoolK (decide ((if (x122 : Int) > x120 then x122 else x120 : Int) ≤ x7))
                        ((0 ≤ (0 : Int) ∧ (0 : Int) < (l5 : Nat)) ∧
                          AddrK a5 fun b123 =>
                          ∃ (x124 : Int), w118.cell? ((b123.add ((0 : Int).toNat * 3)).add 1) = some (.int .i64 x124) ∧
                          ((0 ≤ (1 : Int) ∧ (1 : Int) < (l5 : Nat)) ∧
                            AddrK a5 fun b125 =>
                            ∃ (x126 : Int), w118.cell? ((b125.add ((1 : Int).toNat * 3)).add 1) = some (.int .i64 x126) ∧
                            (K (decide ((x7 : Int) ≤ if (x126 : Int) > x124 then x126 else x124)) w118)))
                        (K false w118))))
                  (DrewK w12 fun w127 =>
                    (0 ≤ (2 : Int) ∧ (2 : Int) < (l5 : Nat)) ∧
                    AddrK a5 fun b128 =>
                    ∃ (x129 : Int), w127.cell? ((b128.add ((2 : Int).toNat * 3)).add 1) = some (.int .i64 x129) ∧
                    (BoolK (decide ((x7 : Int) ≤ x129))
                      ((0 ≤ (IntKind.wrap .i64 (1 - x6) : Int) ∧ (IntKind.wrap .i64 (1 - x6) : Int) < (l5 : Nat)) ∧
                        AddrK a5 fun b130 =>
                        ∃ (x131 : Int), w127.cell? ((b130.add ((IntKind.wrap .i64 (1 - x6) : Int).toNat * 3)).add 1) = some (.int .i64 x131) ∧
                        ((0 ≤ (2 : Int) ∧ (2 : Int) < (l5 : Nat)) ∧
                          AddrK a5 fun b132 =>
                          ∃ (x133 : Int), w127.cell? (b132.add ((2 : Int).toNat * 3)) = some (.int .i64 x133) ∧
                          (BoolK (decide ((x131 : Int) ≥ x133))
                            (K true w127)
                            ((0 ≤ (2 : Int) ∧ (2 : Int) < (l5 : Nat)) ∧
                              AddrK a5 fun b134 =>
                              ∃ (x135 : Int), w127.cell? (b134.add ((2 : Int).toNat * 3)) = some (.int .i64 x135) ∧
                              (K (decide ((x7 : Int) ≥ x135)) w127)))))
                      (K false w127))))
                (BoolK ((s10 : ByteArray).toList == ((⟨#[114, 101, 105, 102, 121]⟩ : ByteArray) : ByteArray).toList)
                  (∃ (s136 : ByteArray), w12.cell? (b8.add 0) = some (.string s136) ∧
                    (∃ (a137 : Option Addr) (l137 : Nat) (c137 : Nat), w12.cell? (b8.add 1) = some (.slice a137 l137 c137) ∧
                      (∃ (a138 : Option Addr) (l138 : Nat) (c138 : Nat), w12.cell? (b8.add 2) = some (.slice a138 l138 c138) ∧
                        (∃ (x139 : Int), w12.cell? (b8.add 3) = some (.int .i64 x139) ∧
                          (Calls Try.prog 91 #[(.agg #[(.string s136), (.slice a137 l137 c137), (.slice a138 l138 c138), (.int .i64 x139)]), (.slice a5 l5 c5), (.int .i64 x6), (.int .i64 x7)] w12 fun e142 w141 =>
                            ∃ (p140 : Bool), e142 = .returned (.bool p140) ∧
                            (K p140 w141))))))
                  (DrewK w12 fun w143 =>
                    ∃ (a144 : Option Addr) (l144 : Nat) (c144 : Nat), w143.cell? (b8.add 2) = some (.slice a144 l144 c144) ∧
                    ((0 ≤ (0 : Int) ∧ (0 : Int) < (l144 : Nat)) ∧
                      AddrK a144 fun b145 =>
                      ∃ (x146 : Int), w143.cell? (b145.add ((0 : Int).toNat * 1)) = some (.int .i64 x146) ∧
                      (∃ (a147 : Option Addr) (l147 : Nat) (c147 : Nat), w143.cell? (b8.add 2) = some (.slice a147 l147 c147) ∧
                        ((0 ≤ (1 : Int) ∧ (1 : Int) < (l147 : Nat)) ∧
                          AddrK a147 fun b148 =>
                          ∃ (x149 : Int), w143.cell? (b148.add ((1 : Int).toNat * 1)) = some (.int .i64 x149) ∧
                          (BoolK ((x6 : Int) == 0)
                            ((0 ≤ (1 : Int) ∧ (1 : Int) < (l5 : Nat)) ∧
                              AddrK a5 fun b150 =>
                              ∃ (x151 : Int), w143.cell? ((b150.add ((1 : Int).toNat * 3)).add 1) = some (.int .i64 x151) ∧
                              (BoolK (decide ((IntKind.wrap .i64 (x7 + x146) : Int) ≤ x151))
                                (K true w143)
                                ((0 ≤ (1 : Int) ∧ (1 : Int) < (l5 : Nat)) ∧
                                  AddrK a5 fun b152 =>
                                  ∃ (x153 : Int), w143.cell? (b152.add ((1 : Int).toNat * 3)) = some (.int .i64 x153) ∧
                                  (K (decide ((IntKind.wrap .i64 (x153 + x149) : Int) ≤ x7)) w143))))
                            ((0 ≤ (0 : Int) ∧ (0 : Int) < (l5 : Nat)) ∧
                              AddrK a5 fun b154 =>
                              ∃ (x155 : Int), w143.cell? (b154.add ((0 : Int).toNat * 3)) = some (.int .i64 x155) ∧
                              (BoolK (decide ((IntKind.wrap .i64 (x155 + x146) : Int) ≤ x7))
                                (K true w143)
                                ((0 ≤ (0 : Int) ∧ (0 : Int) < (l5 : Nat)) ∧
                                  AddrK a5 fun b156 =>
                                  ∃ (x157 : Int), w143.cell? ((b156.add ((0 : Int).toNat * 3)).add 1) = some (.int .i64 x157) ∧
                                  (K (decide ((IntKind.wrap .i64 (x7 + x149) : Int) ≤ x157)) w143)))))))))))))))) ∧
    (BoolK ((s10 : ByteArray).toList == ((⟨#[115, 117, 109]⟩ : ByteArray) : ByteArray).toList)
      (J11 ((s10 : ByteArray).toList == ((⟨#[115, 117, 109]⟩ : ByteArray) : ByteArray).toList) w9)
      (J11 ((s10 : ByteArray).toList == ((⟨#[109, 111, 115, 116]⟩ : ByteArray) : ByteArray).toList) w9)))
def ann82 : Ann := (.two .nil (.two (.two .nil (.one (.cut [(23, (.one .bool))] [1, 2, 3, 4, 22] (.two .nil (.two .nil .nil)) (.two (.two .nil (.two (.two .nil (.one (.loop [(9, (.one (.int .i64))), (10, (.one (.int .i64))), (28, (.one (.int .i64)))] [1, 2, 3, 4, 27] (.two .nil (.two (.two .nil .nil) (.two (.one (.two .nil (.two .nil (.two (.two (.any 15 (.take 0 (.take 1 (.take 2 (.take 3 (.take 4 (.take 5 (.take 6 (.take 7 (.take 8 (.one 9 (.take 10 (.take 11 (.take 12 (.take 13 (.take 14 .done)))))))))))))))) .nil) .nil)))) .nil)))))) (.two (.any 11 (.take 0 (.take 1 (.take 2 (.take 3 (.take 4 (.take 5 (.take 6 (.take 7 (.take 8 (.take 9 (.take 10 .done)))))))))))) (.two .nil .nil)))) (.two .nil (.two (.two (.two .nil (.two (.two (.any 10 (.take 0 (.take 1 (.take 2 (.take 3 (.take 4 (.take 5 (.take 6 (.one 7 (.take 8 (.take 9 .done))))))))))) .nil) .nil)) (.two (.any 10 (.take 0 (.take 1 (.take 2 (.take 3 (.take 4 (.take 5 (.take 6 (.one 7 (.take 8 (.take 9 .done))))))))))) .nil)) (.two .nil (.two (.two (.two .nil (.one (.loop [(103, (.one (.int .i64)))] [1, 2, 3, 102] (.two .nil (.two (.two .nil .nil) (.two (.one (.two .nil (.two .nil (.two (.two .nil .nil) .nil)))) .nil)))))) (.two .nil .nil)) (.two .nil (.two (.two (.two .nil (.two (.two (.any 25 (.take 0 (.take 1 (.take 2 (.take 3 (.take 4 (.take 5 (.take 6 (.take 7 (.take 8 (.take 9 (.take 10 (.take 11 (.take 12 (.take 13 (.take 14 (.take 15 (.take 16 (.take 17 (.take 18 (.take 19 (.take 20 (.take 21 (.take 22 (.take 23 (.take 24 .done)))))))))))))))))))))))))) .nil) .nil)) (.two .nil (.two (.any 21 (.take 0 (.take 1 (.take 2 (.take 3 (.take 4 (.take 5 (.take 6 (.take 7 (.take 8 (.take 9 (.take 10 (.take 11 (.take 12 (.take 13 (.take 14 (.take 15 (.take 16 (.take 17 (.take 18 (.take 19 (.take 20 .done)))))))))))))))))))))) .nil))) (.two .nil (.two (.two (.two .nil (.two (.two (.any 22 (.take 0 (.take 1 (.take 2 (.take 3 (.take 4 (.take 5 (.take 6 (.take 7 (.take 8 (.take 9 (.take 10 (.take 11 (.take 12 (.take 13 (.take 14 (.take 15 (.take 16 (.take 17 (.take 18 (.one 19 (.take 20 (.take 21 .done))))))))))))))))))))))) .nil) .nil)) (.two (.two .nil (.one (.loop [(199, (.one (.int .i64)))] [1, 3, 197, 198] (.two .nil (.two (.two .nil .nil) (.two (.one (.two .nil (.two .nil (.two (.two .nil .nil) .nil)))) .nil)))))) (.two .nil .nil))) (.two .nil (.two (.two (.two .nil (.two (.two (.any 25 (.take 0 (.take 1 (.take 2 (.take 3 (.take 4 (.take 5 (.take 6 (.take 7 (.take 8 (.take 9 (.take 10 (.take 11 (.take 12 (.take 13 (.take 14 (.take 15 (.take 16 (.take 17 (.take 18 (.take 19 (.take 20 (.take 21 (.take 22 (.take 23 (.take 24 .done)))))))))))))))))))))))))) .nil) .nil)) (.two (.any 28 (.take 0 (.take 1 (.take 2 (.take 3 (.take 4 (.take 5 (.take 6 (.take 7 (.take 8 (.take 9 (.take 10 (.take 11 (.take 12 (.take 13 (.take 14 (.take 15 (.take 16 (.take 17 (.take 18 (.take 19 (.take 20 (.take 21 (.take 22 (.take 23 (.take 24 (.take 25 (.take 26 (.take 27 .done))))))))))))))))))))))))))))) .nil)) (.two .nil (.two (.two .nil .nil) .nil)))))))))))))))) (.two (.any 10 (.take 0 (.take 1 (.take 2 (.take 3 (.take 4 (.take 5 (.take 6 (.take 7 (.take 8 (.take 9 .done))))))))))) (.two (.two .nil (.two (.two .nil .nil) .nil)) (.two .nil .nil)))))
noncomputable def code82 : Code := match Try.f82.body with | some c => c | none => .skip
theorem wp82 (s1 : ByteArray) (a2 : Option Addr) (l2 : Nat) (c2 : Nat) (a3 : Option Addr) (l3 : Nat) (c3 : Nat) (x4 : Int) (a5 : Option Addr) (l5 : Nat) (c5 : Nat) (x6 : Int) (x7 : Int) (K : Bool → World → Prop) (w : World) : WP Try.prog tab code82 ann82 (fnQ tab Try.f82.results.toList [(.one .bool)] K) (argE 0 [(.agg #[(.string s1), (.slice a2 l2 c2), (.slice a3 l3 c3), (.int .i64 x4)]), (.slice a5 l5 c5), (.int .i64 x6), (.int .i64 x7)]) w = N82 s1 a2 l2 c2 a3 l3 c3 x4 a5 l5 c5 x6 x7 K w := by kernel_rfl
theorem calls82 (s1 : ByteArray) (a2 : Option Addr) (l2 : Nat) (c2 : Nat) (a3 : Option Addr) (l3 : Nat) (c3 : Nat) (x4 : Int) (a5 : Option Addr) (l5 : Nat) (c5 : Nat) (x6 : Int) (x7 : Int) (K : Bool → World → Prop) (w : World) (h : N82 s1 a2 l2 c2 a3 l3 c3 x4 a5 l5 c5 x6 x7 K w) : Calls Try.prog 82 #[(.agg #[(.string s1), (.slice a2 l2 c2), (.slice a3 l3 c3), (.int .i64 x4)]), (.slice a5 l5 c5), (.int .i64 x6), (.int .i64 x7)] w fun en w' => ∃ (p158 : Bool), en = .returned (.bool p158) ∧ K p158 w' :=
  have e : (fun en w' => ExShs [(.one .bool)] fun vs => en = .returned (tupled vs) ∧ ap [(.one .bool)] K vs fun p => p w') = (fun (en : Ending) (w' : World) => ∃ (p158 : Bool), en = .returned (.bool p158) ∧ K p158 w') := by kernel_rfl
  e ▸ fn_sound tabOk mixed Try.func82 (by kernel_rfl : Try.f82.body = some code82) ann82 [(.agg #[(.string s1), (.slice a2 l2 c2), (.slice a3 l3 c3), (.int .i64 x4)]), (.slice a5 l5 c5), (.int .i64 x6), (.int .i64 x7)] [(.one .bool)] K w (by kernel_rfl) ((wp82 s1 a2 l2 c2 a3 l3 c3 x4 a5 l5 c5 x6 x7 K w).symm ▸ h)
end Go.Proofs.Ytggfnakhmjkoeaa

namespace Go.Proofs.Ytggfnakhmjkoeaa
open Go Go.V Go.Proofs
open Go.RowKit (Below)

theorem rng_of {c : List Int} (h : c.all rng = true) (j : Nat) : -1000000 ≤ c.getD j 0 ∧ c.getD j 0 ≤ 1000000 := by
  rcases Nat.lt_or_ge j c.length with hj | hj
  · have e : c.getD j 0 = c[j] := by rw [List.getD_eq_getElem?_getD, List.getElem?_eq_getElem hj]; rfl
    rw [e]
    have := List.all_eq_true.1 h c[j] (List.getElem_mem _)
    simpa [rng] using this
  · have e : c.getD j 0 = 0 := by rw [List.getD_eq_getElem?_getD, List.getElem?_eq_none hj]; rfl
    rw [e]; omega
theorem getD_get {α : Type} {c : List α} {j : Nat} (hj : j < c.length) (x : α) : c.getD j x = c[j] := by
  rw [List.getD_eq_getElem?_getD, List.getElem?_eq_getElem hj]; rfl
theorem mul_small {c x : Int} (hc : -1000000 ≤ c ∧ c ≤ 1000000) (h0 : 0 ≤ x) (h1 : x ≤ 1000) : -1000000000 ≤ c * x ∧ c * x ≤ 1000000000 := by
  have e1 : (-1000000) * x ≤ c * x := Int.mul_le_mul_of_nonneg_right hc.1 h0
  have e2 : c * x ≤ 1000000 * x := Int.mul_le_mul_of_nonneg_right hc.2 h0
  omega
theorem low_bound {c : List Int} {bs : List Dm} (i : Nat) (hc : c.all rng = true) (hf : ∀ d ∈ bs, Full d) : ∀ j, j ≤ bs.length →
    -1000000000 * (j : Int) ≤ lowS c bs i j ∧ lowS c bs i j ≤ 1000000000 * (j : Int) ∧ -1000000000 * (j : Int) ≤ highS c bs i j ∧ highS c bs i j ≤ 1000000000 * (j : Int)
  | 0, _ => by simp [lowS, highS]
  | j + 1, hj => by
    have ih := low_bound i hc hf j (by omega)
    have hb : at' bs j = bs[j] := getD_get (by omega) _
    have ⟨m0, m1, m2⟩ := (hf bs[j] (List.getElem_mem _)).ends
    have e1 := mul_small (rng_of hc j) m0 (by omega)
    have e2 := mul_small (x := mx bs[j]) (rng_of hc j) (by omega) m2
    simp only [lowS, highS, hb]
    split <;> omega

theorem mul_1000 {x y : Int} (h0 : 0 ≤ x) (h1 : x ≤ 1000) (h2 : 0 ≤ y) (h3 : y ≤ 1000) : 0 ≤ x * y ∧ x * y ≤ 1000000 := by
  have e1 : 0 ≤ x * y := Int.mul_nonneg h0 h2
  have e2 : x * y ≤ 1000 * y := Int.mul_le_mul_of_nonneg_right h1 h2
  omega
theorem not_sm {pk : ByteArray} (h : (decide (kdOf pk = .sum) || decide (kdOf pk = .most)) = false) : kdOf pk ≠ .sum ∧ kdOf pk ≠ .most := by simpa using h

theorem c82 (w : World) (s : ByteArray) (a2 : Option Addr) (l2 c2 : Nat) (a3 : Option Addr) (l3 c3 : Nat) (x4 : Int) (p : PropS) (h : PropAt w s a2 l2 a3 l3 x4 p)
    (a5 : Option Addr) (l5 c5 : Nat) (bs : List Dm) (hb : Bnds w a5 l5 bs) (hlen : bs.length = p.vars.length) (hf : ∀ d ∈ bs, Full d) (hk : kindB (kdOf p.kind) p.vars.length p.coefs.length p.coefs p.n = true)
    (i v : Nat) (hi : i < bs.length) (hv : v ≤ 1000) :
    Calls Try.prog 82 #[.agg #[.string s, .slice a2 l2 c2, .slice a3 l3 c3, .int .i64 x4], .slice a5 l5 c5, .int .i64 i, .int .i64 v] w fun en w' => ∃ r, en = .returned (.bool r) ∧ (r = passS (kdOf p.kind) p.coefs p.n bs i v ∧ Ext w w') := by
  have hP := h
  obtain ⟨pk, pv, pc, pn⟩ := p
  obtain ⟨rfl, hv2, hc, rfl, hl2, hl3⟩ := h
  simp only at hv2 hc hl2 hl3 hk hlen ⊢
  have hl5 : l5 = bs.length := hb.1
  have hl3' : l3 = pc.length := hc.1
  refine calls82 _ _ _ _ _ _ _ _ _ _ _ _ _ _ w ?_
  refine AllocK.mk fun b w9 hb8 hblk hx => ?_
  have hcell := fun (w' : World) (k : Ext w9 w') => cell4 (hblk.ext k)
  obtain ⟨k0, k1, k2, k3, k4, k5, k6, k7, k8⟩ := kd_all pk
  have k0' : (pk.toList == (⟨#[115, 117, 109]⟩ : ByteArray).toList) = _ := k0
  have k1' : (pk.toList == (⟨#[109, 111, 115, 116]⟩ : ByteArray).toList) = _ := k1
  have k2' : (pk.toList == (⟨#[117, 110, 108, 105, 107, 101]⟩ : ByteArray).toList) = _ := k2
  have k3' : (pk.toList == (⟨#[100, 105, 115, 116, 105, 110, 99, 116]⟩ : ByteArray).toList) = _ := k3
  have k4' : (pk.toList == (⟨#[112, 114, 111, 100, 117, 99, 116]⟩ : ByteArray).toList) = _ := k4
  have k5' : (pk.toList == (⟨#[109, 97, 120]⟩ : ByteArray).toList) = _ := k5
  have k6' : (pk.toList == (⟨#[101, 108, 101, 109, 101, 110, 116]⟩ : ByteArray).toList) = _ := k6
  have k7' : (pk.toList == (⟨#[114, 101, 105, 102, 121]⟩ : ByteArray).toList) = _ := k7
  refine ⟨_, (hcell w9 (Ext.refl _)).1, ?_⟩
  rw [k0', k1', k2', k3', k4', k5', k6', k7']
  clear k0 k1 k2 k3 k4 k5 k6 k7 k8 k0' k2' k3' k4' k5' k6' k7'
  refine ⟨fun q w12 => Ext w9 w12 ∧ q = (decide (kdOf pk = .sum) || decide (kdOf pk = .most)), ?_, ?_⟩
  · rintro w12 q ⟨hx12, rfl⟩
    have hxx := hx.trans hx12
    have hC := hcell w12 hx12
    have dom := fun (w' : World) (k : Ext w9 w') (j : Nat) (hj : j < bs.length) => bndAt hb w' (hx.trans k) hj
    have ends := fun (j : Nat) (hj : j < bs.length) => (hf bs[j] (List.getElem_mem hj)).ends
    have atE : ∀ (j : Nat) (hj : j < bs.length), at' bs j = bs[j] := fun j hj => getD_get hj []
    refine BoolK.mk (fun t => ?_) (fun tsm => ?_)
    · -- sum, most
      have hkb : kdOf pk = .sum ∨ kdOf pk = .most := by simpa using t
      have ⟨hv40, hcv, hcr, hnr⟩ : (1 ≤ pv.length ∧ pv.length ≤ 40) ∧ pc.length = pv.length ∧ pc.all rng = true ∧ rng pn = true := by
        rcases hkb with e | e <;> rw [e] at hk <;> simp only [kindB, Bool.and_eq_true, decide_eq_true_eq] at hk <;> exact ⟨hk.1.1.1.1, hk.1.1.1.2, hk.1.2, hk.2⟩
      have hnr' := of_decide_eq_true hnr
      refine ⟨fun x17 x18 x19 w' => ∃ j : Nat, x19 = j ∧ j ≤ bs.length ∧ x17 = lowS pc bs i j ∧ x18 = highS pc bs i j ∧ Ext w9 w', fun _ _ x _ => bs.length - x.toNat, ⟨⟨0, rfl, by omega, rfl, rfl, hx12⟩, trivial⟩, ?_⟩
      rintro w16 _ _ _ ⟨j, rfl, hj, rfl, rfl, hB⟩
      have bnd := low_bound i hcr hf j hj
      refine BoolK.mk (fun hlt => ?_) (fun hge => ?_)
      · have hlt : j < bs.length := by simp at hlt; omega
        refine BoolK.mk (fun tne => ?_) (fun teq => ?_)
        · have hne : j ≠ i := by simp at tne; omega
          refine DrewK.mk fun w20 hx20 => ?_
          have hB20 := hB.trans hx20
          obtain ⟨b1, o1, s1, rfl, g0, g1, g2, _⟩ := dom w20 hB20 j hlt
          obtain ⟨b3, o3, rfl, g3⟩ := intAt hc w20 (hx.trans hB20) (i := j) (by omega)
          refine ⟨by omega, ?_⟩
          simp only [AddrK, add_mk, Int.toNat_natCast, Nat.add_zero]
          refine ⟨_, g0, _, g1, _, g2, _, _, _, (hcell _ hB20).2.2.1, by omega, ?_⟩
          simp only [add_mk, Nat.mul_one]
          have ⟨m0, m1, m2⟩ := ends j hlt
          have hcj : pc.getD j 0 = pc[j] := getD_get (by omega) _
          refine ⟨_, g3, (c88 w20 _ _ _ _ m0 m1 m2 (by rw [← hcj]; exact rng_of hcr j)).mono ?_⟩
          rintro en w30 ⟨y, z, rfl, hy, hz, y0, y1, z0, z1, hx30⟩
          have e1 : lowS pc bs i (j + 1) = lowS pc bs i j + y := by rw [lowS, if_neg hne, hcj, atE j hlt, hy]
          have e2 : highS pc bs i (j + 1) = highS pc bs i j + z := by rw [highS, if_neg hne, hcj, atE j hlt, hz]
          refine ⟨y, z, rfl, hx30, ?_⟩
          rw [wrap_succ (by omega), wrap_id (x := lowS pc bs i j + y) (by omega) (by omega), wrap_id (x := highS pc bs i j + z) (by omega) (by omega)]
          exact ⟨⟨j + 1, rfl, by omega, e1.symm, e2.symm, hB20.trans hx30⟩, by simp; omega⟩
        · have he : j = i := by simp at teq; omega
          rw [wrap_succ (by omega)]
          exact ⟨⟨j + 1, rfl, by omega, by rw [lowS, if_pos he, Int.add_zero], by rw [highS, if_pos he, Int.add_zero], hB⟩, by simp; omega⟩
      · have : j = bs.length := by simp at hge; omega
        subst this
        refine DrewK.mk fun w32 hx32 => ?_
        have hB32 := hB.trans hx32
        obtain ⟨b3, o3, rfl, g3⟩ := intAt hc w32 (hx.trans hB32) (i := i) (by omega)
        have hC := hcell _ hB32
        simp only [AddrK, add_mk, Nat.zero_add]
        refine ⟨_, hC.2.2.2, _, _, _, hC.2.2.1, by omega, ?_⟩
        simp only [add_mk, Int.toNat_natCast, Nat.mul_one]
        have hci : pc.getD i 0 = pc[i] := getD_get (by omega) _
        have hm := mul_small (rng_of hcr i) (x := (v : Int)) (by omega) (by omega)
        rw [hci] at hm
        refine ⟨_, g3, ?_⟩
        rw [wrap_id (x := pc[i] * (v : Int)) (by omega) (by omega), wrap_id (x := pn - pc[i] * (v : Int)) (by omega) (by omega)]
        rcases hkb with e | e
        · rw [e]; simp only [passS]; rw [hci]
          refine BoolK.mk (fun t1 => ?_) (fun t1 => ?_)
          · refine ⟨_, hC.1, ?_⟩
            rw [k1', e]
            exact ⟨by rw [t1]; rfl, hx.trans hB32⟩
          · exact ⟨by rw [t1]; rfl, hx.trans hB32⟩
        · rw [e]; simp only [passS]; rw [hci]
          refine BoolK.mk (fun t1 => ?_) (fun t1 => ?_)
          · refine ⟨_, hC.1, ?_⟩
            rw [k1', e]
            exact ⟨by rw [t1], hx.trans hB32⟩
          · exact ⟨by rw [t1], hx.trans hB32⟩
    have ⟨ns, nm⟩ := not_sm tsm
    clear k1'
    -- unlike
    refine BoolK.mk (fun q => ?_) (fun q2 => ?_)
    · have e := of_decide_eq_true q
      rw [e] at hk ⊢
      simp only [kindB, Bool.and_eq_true, decide_eq_true_eq] at hk
      have hnr := of_decide_eq_true hk.2
      simp only [passS]
      refine BoolK.mk (fun t => ?_) (fun t => ?_)
      · have hi0 : i = 0 := by simpa using t
        refine DrewK.mk fun w38 hx38 => ?_
        have hB := hx12.trans hx38
        obtain ⟨b1, o1, s1, rfl, g0, g1, g2, _⟩ := dom w38 hB 1 (by omega)
        have ⟨m0, m1, m2⟩ := ends 1 (by omega)
        refine ⟨by omega, ?_⟩
        simp only [AddrK, add_mk, Int.toNat_one, Nat.add_zero, Nat.zero_add]
        refine ⟨_, g0, _, g1, _, g2, _, (hcell _ hB).2.2.2, (c89 w38 _ _ _ _).mono ?_⟩
        rintro en w45 ⟨r, rfl, hr, hx45⟩
        refine ⟨_, rfl, hx45, ?_, hx.trans (hB.trans hx45)⟩
        rw [if_pos hi0, hr, wrap_id (by omega) (by omega), atE 1 (by omega)]; rfl
      · have hi0 : i ≠ 0 := by simpa using t
        refine DrewK.mk fun w38 hx38 => ?_
        have hB := hx12.trans hx38
        obtain ⟨b1, o1, s1, rfl, g0, g1, g2, _⟩ := dom w38 hB 0 (by omega)
        have ⟨m0, m1, m2⟩ := ends 0 (by omega)
        refine ⟨by omega, ?_⟩
        simp only [AddrK, add_mk, Int.toNat_zero, Nat.add_zero, Nat.zero_add, Nat.zero_mul] at g0 g1 g2 ⊢
        refine ⟨_, g0, _, g1, _, g2, _, (hcell _ hB).2.2.2, (c89 w38 _ _ _ _).mono ?_⟩
        rintro en w45 ⟨r, rfl, hr, hx45⟩
        refine ⟨_, rfl, hx45, ?_, hx.trans (hB.trans hx45)⟩
        rw [if_neg hi0, hr, wrap_id (by omega) (by omega), atE 0 (by omega)]; rfl
    -- distinct
    refine BoolK.mk (fun q => ?_) (fun q3 => ?_)
    · have e := of_decide_eq_true q
      rw [e] at hk ⊢
      simp only [kindB, Bool.and_eq_true, decide_eq_true_eq] at hk
      simp only [passS]
      refine ⟨fun x w' => ∃ j : Nat, x = j ∧ j ≤ bs.length ∧ ((List.range bs.length).take j).all (fun j => decide (j = i) || !oneB (at' bs j) v) = true ∧ Ext w9 w', fun x _ => bs.length - x.toNat, ⟨⟨0, rfl, by omega, rfl, hx12⟩, trivial⟩, ?_⟩
      rintro w58 _ ⟨j, rfl, hj, hall, hB⟩
      refine BoolK.mk (fun hlt => ?_) (fun hge => ?_)
      · have hlt : j < bs.length := by simp at hlt; omega
        have hlt' : j < (List.range bs.length).length := by simpa using hlt
        have hstep : ∀ w', Ext w9 w' → (decide (j = i) || !oneB (at' bs j) v) = true → (∃ j' : Nat, IntKind.wrap .i64 ((j : Int) + 1) = j' ∧ j' ≤ bs.length ∧ ((List.range bs.length).take j').all (fun j => decide (j = i) || !oneB (at' bs j) v) = true ∧ Ext w9 w') ∧ bs.length - (IntKind.wrap .i64 ((j : Int) + 1)).toNat < bs.length - (j : Int).toNat := fun w' hw' hh => by
          rw [wrap_succ (by omega)]
          refine ⟨⟨j + 1, rfl, by omega, ?_, hw'⟩, by simp; omega⟩
          rw [all_take hlt', hall, Bool.true_and, List.getElem_range]; exact hh
        refine BoolK.mk (fun tne => ?_) (fun teq => ?_)
        · have hne : j ≠ i := by simp at tne; omega
          obtain ⟨b1, o1, s1, rfl, g0, g1, g2, _⟩ := dom w58 hB j hlt
          refine ⟨by omega, ?_⟩
          simp only [AddrK, add_mk, Int.toNat_natCast, Nat.add_zero]
          refine ⟨_, g0, _, g1, _, g2, (c89 w58 _ _ _ _).mono ?_⟩
          rintro en w65 ⟨r, rfl, hr, hx65⟩
          have hr' : r = oneB (at' bs j) v := by rw [hr, atE j hlt]; rfl
          refine ⟨_, rfl, BoolK.mk (fun t1 => ?_) (fun t1 => ?_)⟩
          · refine ⟨?_, hx.trans (hB.trans hx65)⟩
            rw [all_false hlt' (by rw [List.getElem_range, ← hr', t1, decide_eq_false hne]; rfl)]
          · exact hstep _ (hB.trans hx65) (by rw [← hr', t1]; simp)
        · have he : j = i := by simp at teq; omega
          exact hstep _ hB (by rw [decide_eq_true he]; rfl)
      · have : j = bs.length := by simp at hge; omega
        subst this
        rw [List.take_of_length_le (by simp)] at hall
        exact ⟨hall.symm, hx.trans hB⟩
    -- product
    refine BoolK.mk (fun q => ?_) (fun q4 => ?_)
    · have e := of_decide_eq_true q
      rw [e] at hk ⊢
      simp only [kindB, Bool.and_eq_true, decide_eq_true_eq] at hk
      simp only [passS]
      have ⟨m00, m01, m02⟩ := ends 0 (by omega)
      have ⟨m10, m11, m12⟩ := ends 1 (by omega)
      have ⟨m20, m21, m22⟩ := ends 2 (by omega)
      refine BoolK.mk (fun t => ?_) (fun t => ?_)
      · have hi2 : i = 2 := by simp at t; omega
        rw [if_pos hi2]
        refine DrewK.mk fun w67 hx67 => ?_
        have hB := hx12.trans hx67
        obtain ⟨b1, o1, s1, rfl, g0, g1, g2, _⟩ := dom w67 hB 0 (by omega)
        obtain ⟨b', o', s2, ha', f0, f1, f2, _⟩ := dom w67 hB 1 (by omega)
        simp at ha'; obtain ⟨rfl, rfl⟩ := ha'
        refine ⟨by omega, ?_⟩
        simp only [AddrK, add_mk, Int.toNat_zero, Int.toNat_one, Nat.zero_mul, Nat.add_zero] at g0 g1 ⊢
        have p1 := mul_1000 m00 (by omega) m10 (by omega)
        have p2 := mul_1000 (x := mx bs[0]) (y := mx bs[1]) (by omega) m02 (by omega) m12
        refine ⟨_, g0, by omega, _, f0, ?_⟩
        rw [wrap_id (by omega) (by omega), atE 0 (by omega), atE 1 (by omega)]
        refine BoolK.mk (fun t1 => ?_) (fun t1 => ?_)
        · refine ⟨by omega, _, g1, by omega, _, f1, ?_, hx.trans hB⟩
          rw [wrap_id (by omega) (by omega), t1]; rfl
        · exact ⟨by rw [t1]; rfl, hx.trans hB⟩
      · have hi2 : i ≠ 2 := by simp at t; omega
        rw [if_neg hi2]
        have hw1 : IntKind.wrap .i64 (1 - (i : Int)) = ((1 - i : Nat) : Int) := by rw [wrap_id] <;> omega
        rw [hw1]
        have h1i : 1 - i < bs.length := by omega
        have ⟨m30, m31, m32⟩ := ends (1 - i) h1i
        obtain ⟨b1, o1, s1, rfl, g0, g1, g2, _⟩ := dom w12 hx12 (1 - i) h1i
        refine ⟨by omega, ?_⟩
        simp only [AddrK, add_mk, Int.toNat_natCast, Nat.add_zero]
        refine ⟨_, g0, _, g1, _, g2, AllocK.mk fun b80 w81 hb80 hblk80 hx81 => ?_⟩
        have S := @set3 w81 b80
        simp only [add_mk, Nat.zero_add] at S
        simp only [add_mk, Nat.zero_add]
        refine S hblk80 fun w84 hblk84 hbut => ?_
        have hx84 : Ext w12 w84 := hbut.below hx81 (by omega)
        refine DrewK.mk fun w85 hx85 => ?_
        obtain ⟨z0, z1, _⟩ := cell3 (hblk84.ext hx85)
        have hB := hx12.trans (hx84.trans hx85)
        obtain ⟨b', o', s2, ha', f0, f1, f2, _⟩ := dom w85 hB 2 (by omega)
        simp at ha'; obtain ⟨rfl, rfl⟩ := ha'
        have p1 := mul_1000 (x := (v : Int)) (y := mn bs[1 - i]) (by omega) (by omega) m30 (by omega)
        have p2 := mul_1000 (x := (v : Int)) (y := mx bs[1 - i]) (by omega) (by omega) (by omega) m32
        refine ⟨_, z0, by omega, ?_⟩
        refine ⟨_, f1, ?_⟩
        rw [wrap_id (by omega) (by omega), atE (1 - i) h1i, atE 2 (by omega)]
        refine BoolK.mk (fun t1 => ?_) (fun t1 => ?_)
        · refine ⟨_, z1, by omega, _, f0, ?_, hx.trans hB⟩
          rw [wrap_id (by omega) (by omega), t1]; rfl
        · exact ⟨by rw [t1]; rfl, hx.trans hB⟩
    -- element
    refine BoolK.mk (fun q => ?_) (fun q5 => ?_)
    · have e := of_decide_eq_true q
      rw [e] at hk ⊢
      simp only [kindB, Bool.and_eq_true, decide_eq_true_eq] at hk
      simp only [passS]
      refine BoolK.mk (fun t => ?_) (fun t => ?_)
      · have hi0 : i = 0 := by simpa using t
        rw [if_pos hi0]
        refine DrewK.mk fun w92 hx92 => ?_
        have hB := hx12.trans hx92
        refine BoolK.mk (fun t1 => ?_) (fun t1 => ?_)
        · have hv1 : 1 ≤ v := by simp at t1; omega
          rw [decide_eq_true (show 1 ≤ (v : Int) by omega), Bool.true_and]
          simp only [AddrK, add_mk, Nat.zero_add]
          refine ⟨_, _, _, (hcell _ hB).2.2.1, ?_⟩
          refine BoolK.mk (fun t2 => ?_) (fun t2 => ?_)
          · have hvl : v ≤ pc.length := by simp at t2; omega
            rw [decide_eq_true (show (v : Int) ≤ pc.length by omega), Bool.true_and]
            obtain ⟨b1, o1, s1, rfl, g0, g1, g2, g4⟩ := dom w92 hB 1 (by omega)
            refine ⟨by omega, ?_⟩
            simp only [add_mk, Int.toNat_one, Nat.add_zero]
            have hw1 : IntKind.wrap .i64 ((v : Int) - 1) = ((v - 1 : Nat) : Int) := by rw [wrap_id] <;> omega
            rw [hw1]
            obtain ⟨b3, o3, rfl, g3⟩ := intAt hc w92 (hx.trans hB) (i := v - 1) (by omega)
            refine ⟨_, g0, _, g1, _, g2, _, _, _, (hcell _ hB).2.2.1, by omega, ?_⟩
            simp only [add_mk, Int.toNat_natCast, Nat.mul_one]
            refine ⟨_, g3, (c90 w92 _ _ s1 bs[1] _ g4 (hf _ (List.getElem_mem _)).vd).mono ?_⟩
            rintro en w102 ⟨r, rfl, hr, hx102⟩
            refine ⟨_, rfl, hx102, ?_, hx.trans (hB.trans hx102)⟩
            rw [hr, atE 1 (by omega), show ((v : Int) - 1).toNat = v - 1 by omega, getD_get (show v - 1 < pc.length by omega)]
          · exact ⟨by rw [decide_eq_false (by simp at t2; omega)]; rfl, hx.trans hB⟩
        · exact ⟨by rw [decide_eq_false (by simp at t1; omega)]; rfl, hx.trans hB⟩
      · have hi0 : i ≠ 0 := by simpa using t
        rw [if_neg hi0]
        simp only [AddrK, add_mk, Nat.zero_add]
        refine ⟨_, _, _, hC.2.2.1, ?_⟩
        refine ⟨fun x w' => ∃ j : Nat, x = j ∧ j ≤ pc.length ∧ ((List.range pc.length).take j).any (fun k => decide (pc.getD k 0 = v) && inD (at' bs 0) (k + 1)) = false ∧ Ext w9 w', fun x _ => pc.length - x.toNat, ⟨⟨0, rfl, by omega, rfl, hx12⟩, trivial⟩, ?_⟩
        rintro w107 _ ⟨j, rfl, hj, hall, hB⟩
        refine BoolK.mk (fun hlt => ?_) (fun hge => ?_)
        · have hlt : j < pc.length := by simp at hlt; omega
          have hlt' : j < (List.range pc.length).length := by simpa using hlt
          have hstep : ∀ w', Ext w9 w' → (decide (pc.getD j 0 = v) && inD (at' bs 0) (j + 1)) = false → (∃ j' : Nat, IntKind.wrap .i64 ((j : Int) + 1) = j' ∧ j' ≤ pc.length ∧ ((List.range pc.length).take j').any (fun k => decide (pc.getD k 0 = v) && inD (at' bs 0) (k + 1)) = false ∧ Ext w9 w') ∧ pc.length - (IntKind.wrap .i64 ((j : Int) + 1)).toNat < pc.length - (j : Int).toNat := fun w' hw' hh => by
            rw [wrap_succ (by omega)]
            refine ⟨⟨j + 1, rfl, by omega, ?_, hw'⟩, by simp; omega⟩
            rw [any_take hlt', hall, Bool.false_or, List.getElem_range]; exact hh
          obtain ⟨b3, o3, rfl, g3⟩ := intAt hc w107 (hx.trans hB) (i := j) (by omega)
          have hcj : pc.getD j 0 = pc[j] := getD_get (by omega) _
          refine ⟨by omega, ?_⟩
          simp only [add_mk, Int.toNat_natCast, Nat.mul_one]
          refine ⟨_, g3, BoolK.mk (fun t1 => ?_) (fun t1 => ?_)⟩
          · have t1' : pc[j] = (v : Int) := by simpa using t1
            obtain ⟨b1, o1, s1, rfl, g0, g1, g2, g4⟩ := dom w107 hB 0 (by omega)
            refine ⟨by omega, ?_⟩
            simp only [add_mk, Int.toNat_zero, Nat.zero_mul, Nat.add_zero] at g0 g1 g2 ⊢
            refine ⟨_, g0, _, g1, _, g2, (c90 w107 _ _ s1 bs[0] _ g4 (hf _ (List.getElem_mem _)).vd).mono ?_⟩
            rintro en w116 ⟨r, rfl, hr, hx116⟩
            have hw1 : IntKind.wrap .i64 ((j : Int) + 1) = (j : Int) + 1 := by rw [wrap_id] <;> omega
            have hr' : r = inD (at' bs 0) (j + 1) := by rw [hr, atE 0 (by omega), hw1]
            refine ⟨_, rfl, BoolK.mk (fun t2 => ?_) (fun t2 => ?_)⟩
            · refine ⟨?_, hx.trans (hB.trans hx116)⟩
              rw [any_true hlt' (by rw [List.getElem_range, hcj, decide_eq_true t1', ← hr', t2]; rfl)]
            · exact hstep _ (hB.trans hx116) (by rw [← hr', t2, Bool.and_false])
          · exact hstep _ hB (by rw [hcj, decide_eq_false (by simpa using t1)]; rfl)
        · have : j = pc.length := by simp at hge; omega
          subst this
          rw [List.take_of_length_le (by simp)] at hall
          exact ⟨hall.symm, hx.trans hB⟩
    -- max
    refine BoolK.mk (fun q => ?_) (fun q6 => ?_)
    · have e := of_decide_eq_true q
      rw [e] at hk ⊢
      simp only [kindB, Bool.and_eq_true, decide_eq_true_eq] at hk
      simp only [passS]
      refine BoolK.mk (fun t => ?_) (fun t => ?_)
      · have hi2 : i = 2 := by simp at t; omega
        rw [if_pos hi2]
        refine DrewK.mk fun w67 hx67 => ?_
        have hB := hx12.trans hx67
        obtain ⟨b1, o1, s1, rfl, g0, g1, g2, _⟩ := dom w67 hB 0 (by omega)
        obtain ⟨b', o', s2, ha', f0, f1, f2, _⟩ := dom w67 hB 1 (by omega)
        simp at ha'; obtain ⟨rfl, rfl⟩ := ha'
        refine ⟨by omega, ?_⟩
        simp only [AddrK, add_mk, Int.toNat_zero, Int.toNat_one, Nat.zero_mul, Nat.add_zero] at g0 g1 ⊢
        refine ⟨_, g0, by omega, _, f0, ?_⟩
        rw [atE 0 (by omega), atE 1 (by omega)]
        have emax : ∀ x y : Int, (if y > x then y else x) = max x y := fun x y => by split <;> omega
        rw [emax]
        refine BoolK.mk (fun t1 => ?_) (fun t1 => ?_)
        · refine ⟨by omega, _, g1, by omega, _, f1, ?_, hx.trans hB⟩
          rw [emax, t1]; rfl
        · exact ⟨by rw [t1]; rfl, hx.trans hB⟩
      · have hi2 : i ≠ 2 := by simp at t; omega
        rw [if_neg hi2]
        refine DrewK.mk fun w127 hx127 => ?_
        have hB := hx12.trans hx127
        have hw1 : IntKind.wrap .i64 (1 - (i : Int)) = ((1 - i : Nat) : Int) := by rw [wrap_id] <;> omega
        have h1i : 1 - i < bs.length := by omega
        obtain ⟨b1, o1, s1, rfl, g0, g1, g2, _⟩ := dom w127 hB 2 (by omega)
        obtain ⟨b', o', s2, ha', f0, f1, f2, _⟩ := dom w127 hB (1 - i) h1i
        simp at ha'; obtain ⟨rfl, rfl⟩ := ha'
        refine ⟨by omega, ?_⟩
        rw [hw1]
        simp only [AddrK, add_mk, Int.toNat_natCast]
        refine ⟨_, g1, ?_⟩
        rw [atE 2 (by omega), atE (1 - i) h1i]
        refine BoolK.mk (fun t1 => ?_) (fun t1 => ?_)
        · rw [t1, Bool.true_and]
          refine ⟨by omega, _, f1, by omega, _, g0, BoolK.mk (fun t2 => ?_) (fun t2 => ?_)⟩
          · exact ⟨by rw [t2]; rfl, hx.trans hB⟩
          · refine ⟨by omega, _, g0, ?_, hx.trans hB⟩
            rw [t2]; rfl
        · exact ⟨by rw [t1]; rfl, hx.trans hB⟩
    -- reify
    refine BoolK.mk (fun q => ?_) (fun q7 => ?_)
    · have e := of_decide_eq_true q
      rw [e] at hk ⊢
      simp only [kindB, Bool.and_eq_true, decide_eq_true_eq] at hk
      simp only [passS]
      simp only [add_mk, Nat.zero_add]
      refine ⟨_, hC.1, _, _, _, hC.2.1, _, _, _, hC.2.2.1, _, hC.2.2.2, ?_⟩
      obtain ⟨d0, d1, d2, rfl⟩ : ∃ d0 d1 d2, bs = [d0, d1, d2] := by
        match bs, hlen, hk.1.1 with
        | [d0, d1, d2], _, _ => exact ⟨d0, d1, d2, rfl⟩
        | [], h1, h2 => simp at h1; omega
        | [_], h1, h2 => simp at h1; omega
        | [_, _], h1, h2 => simp at h1; omega
        | _ :: _ :: _ :: _ :: _, h1, h2 => simp at h1; omega
      refine (c91 w12 pk a2 l2 c2 a3 l3 c3 pn _ (hP.ext hxx) a5 l5 c5 d0 d1 d2 (hb.ext RBnd.mono hxx) (hf _ (by simp)) (hf _ (by simp)) (hf _ (by simp)) hk.2 i v hi hv).mono ?_
      rintro en w141 ⟨r, rfl, hr, hx141⟩
      exact ⟨_, rfl, hr, hxx.trans hx141⟩
    -- apart
    have e : kdOf pk = .apart := by
      simp at q2 q3 q4 q5 q6 q7
      cases hh : kdOf pk <;> simp_all [kindB]
    rw [e] at hk ⊢
    simp only [kindB, Bool.and_eq_true, decide_eq_true_eq] at hk
    simp only [passS]
    obtain ⟨e0, e1, rfl⟩ : ∃ x y, pc = [x, y] := by
      match pc, hk.1.2 with
      | [x, y], _ => exact ⟨x, y, rfl⟩
      | [], h1 => simp at h1
      | [_], h1 => simp at h1
      | _ :: _ :: _ :: _, h1 => simp at h1
    have hcc : (0 ≤ e0 ∧ e0 ≤ 1000000) ∧ (0 ≤ e1 ∧ e1 ≤ 1000000) := by simpa using hk.2
    have ⟨m00, m01, m02⟩ := ends 0 (by omega)
    have ⟨m10, m11, m12⟩ := ends 1 (by omega)
    refine DrewK.mk fun w143 hx143 => ?_
    have hB := hx12.trans hx143
    have hC := hcell _ hB
    simp only [AddrK, add_mk, Nat.zero_add]
    obtain ⟨b3, o3, rfl, g3⟩ := intAt hc w143 (hx.trans hB) (i := 0) (by simp)
    obtain ⟨b', o', ha', g4⟩ := intAt hc w143 (hx.trans hB) (i := 1) (by simp)
    simp at ha'; obtain ⟨rfl, rfl⟩ := ha'
    simp only [List.getElem_cons_zero, List.getElem_cons_succ, Nat.add_zero] at g3 g4
    simp only [List.length_cons, List.length_nil] at hl3'
    refine ⟨_, _, _, hC.2.2.1, by omega, ?_⟩
    simp only [add_mk, Int.toNat_zero, Nat.zero_mul, Nat.add_zero]
    refine ⟨_, g3, _, _, _, hC.2.2.1, by omega, ?_⟩
    simp only [add_mk, Int.toNat_one, Nat.mul_one]
    refine ⟨_, g4, ?_⟩
    obtain ⟨b1, o1, s1, rfl, f0, f1, _, _⟩ := dom w143 hB 0 (by omega)
    obtain ⟨b', o', s2, ha', h0, h1, _, _⟩ := dom w143 hB 1 (by omega)
    simp at ha'; obtain ⟨rfl, rfl⟩ := ha'
    simp only [Nat.zero_mul, Nat.add_zero] at f0 f1
    simp only [add_mk, List.getD_cons_zero, List.getD_cons_succ]
    refine BoolK.mk (fun t => ?_) (fun t => ?_)
    · have hi0 : i = 0 := by simpa using t
      rw [if_pos hi0, atE 1 (by omega)]
      refine ⟨by omega, _, h1, ?_⟩
      rw [wrap_id (by omega) (by omega)]
      refine BoolK.mk (fun t1 => ?_) (fun t1 => ?_)
      · exact ⟨by rw [t1]; rfl, hx.trans hB⟩
      · refine ⟨by omega, _, h0, ?_, hx.trans hB⟩
        rw [wrap_id (by omega) (by omega), t1]; rfl
    · have hi0 : i ≠ 0 := by simpa using t
      rw [if_neg hi0, atE 0 (by omega)]
      refine ⟨by omega, _, f0, ?_⟩
      rw [wrap_id (by omega) (by omega)]
      refine BoolK.mk (fun t1 => ?_) (fun t1 => ?_)
      · exact ⟨by rw [t1]; rfl, hx.trans hB⟩
      · refine ⟨by omega, _, f1, ?_, hx.trans hB⟩
        rw [wrap_id (by omega) (by omega), t1]; rfl
  · refine BoolK.mk (fun q => ?_) (fun q => ?_)
    · rw [q]; exact ⟨Ext.refl _, rfl⟩
    · rw [q]; exact ⟨Ext.refl _, rfl⟩
end Go.Proofs.Ytggfnakhmjkoeaa
