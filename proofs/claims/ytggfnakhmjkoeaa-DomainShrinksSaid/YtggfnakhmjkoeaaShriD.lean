/- A part of the proof: plain forms of functions and laws about them. -/
import Derived.Test.YtggfnakhmjkoeaaShriC
namespace Go.Proofs.Ytggfnakhmjkoeaa
open Go Go.V Go.Proofs
open Go.RowKit (Below)

theorem mn_le {d : Dm} (h : VD d) {v : Int} (hv : inD d v = true) : mn d ≤ v := by
  simp only [inD, List.any_eq_true, inR, Bool.and_eq_true, decide_eq_true_eq] at hv
  obtain ⟨p, hp, h1, _⟩ := hv
  cases d with
  | nil => cases hp
  | cons q qs =>
    show q.1 ≤ v
    rcases List.mem_cons.1 hp with rfl | hp
    · exact h1
    · have := (List.pairwise_cons.1 h.pw).1 p hp
      have := h.all q List.mem_cons_self
      omega
theorem le_mx {d : Dm} (h : VD d) {v : Int} (hv : inD d v = true) : v ≤ mx d := by
  simp only [inD, List.any_eq_true, inR, Bool.and_eq_true, decide_eq_true_eq] at hv
  obtain ⟨p, hp, _, h2⟩ := hv
  cases hl : d.getLast? with
  | none => rw [List.getLast?_eq_none_iff.1 hl] at hp; cases hp
  | some q =>
    have e : mx d = q.2 := by rw [mx, hl]
    rw [e]
    have hs := split_last hl
    rw [hs] at hp
    have hpw := h.pw
    rw [hs, List.pairwise_append] at hpw
    have hq := h.all q (List.mem_of_getLast? hl)
    rcases List.mem_append.1 hp with hp | hp
    · have := hpw.2.2 p hp q (by simp); omega
    · simp at hp; subst hp; exact h2
theorem mn_in {d : Dm} (h : Full d) : inD d (mn d) = true := by
  cases d with
  | nil => exact absurd rfl h.ne
  | cons q qs =>
    have := h.vd.all q List.mem_cons_self
    simp only [inD, List.any_cons, inR, mn, List.head?_cons, Bool.or_eq_true, Bool.and_eq_true, decide_eq_true_eq]
    left; omega
theorem mx_in {d : Dm} (h : Full d) : inD d (mx d) = true := by
  cases hl : d.getLast? with
  | none => exact absurd (List.getLast?_eq_none_iff.1 hl) h.ne
  | some q =>
    have e : mx d = q.2 := by rw [mx, hl]
    have hm := List.mem_of_getLast? hl
    have := h.vd.all q hm
    rw [e]
    simp only [inD, List.any_eq_true, inR, Bool.and_eq_true, decide_eq_true_eq]
    exact ⟨q, hm, by omega, by omega⟩
/-- one domain within another -/
structure In2 (d e : Dm) : Prop where
  low : Full d
  up : Full e
  sub : ∀ v, inD d v = true → inD e v = true
theorem In2.ends {d e : Dm} (h : In2 d e) : 0 ≤ mn e ∧ mn e ≤ mn d ∧ mn d ≤ mx d ∧ mx d ≤ mx e ∧ mx e ≤ 1000 := by
  have h1 := mn_le h.up.vd (h.sub _ (mn_in h.low))
  have h2 := le_mx h.up.vd (h.sub _ (mx_in h.low))
  have h3 := h.low.ends
  have h4 := h.up.ends
  omega
theorem In2.one {d e : Dm} (h : In2 d e) {v : Int} (hv : oneB e v = true) : oneB d v = true := by
  have := h.ends
  simp only [oneB, Bool.and_eq_true, decide_eq_true_eq] at hv ⊢
  omega
theorem mul_mono (c : Int) {a b a' b' : Int} (h1 : a' ≤ a) (h2 : a ≤ b) (h3 : b ≤ b') : min (c * a') (c * b') ≤ min (c * a) (c * b) ∧ max (c * a) (c * b) ≤ max (c * a') (c * b') := by
  rcases Int.le_total 0 c with hc | hc
  · have e1 := Int.mul_le_mul_of_nonneg_left h1 hc
    have e2 := Int.mul_le_mul_of_nonneg_left h2 hc
    have e3 := Int.mul_le_mul_of_nonneg_left h3 hc
    omega
  · have e1 := Int.mul_le_mul_of_nonpos_left hc h1
    have e2 := Int.mul_le_mul_of_nonpos_left hc h2
    have e3 := Int.mul_le_mul_of_nonpos_left hc h3
    omega
theorem low_mono (c : List Int) (bs cs : List Dm) (i : Nat) (h : ∀ j, j < bs.length → In2 (at' bs j) (at' cs j)) : ∀ j, j ≤ bs.length → lowS c cs i j ≤ lowS c bs i j ∧ highS c bs i j ≤ highS c cs i j
  | 0, _ => by simp [lowS, highS]
  | j + 1, hj => by
    have ih := low_mono c bs cs i h j (by omega)
    have e := (h j (by omega)).ends
    have m := mul_mono (c.getD j 0) e.2.1 e.2.2.1 e.2.2.2.1
    simp only [lowS, highS]
    split <;> omega

theorem pass_mono (k : Kd) (c : List Int) (N : Int) (bs cs : List Dm) (hl : bs.length = cs.length) (h : ∀ j, j < bs.length → In2 (at' bs j) (at' cs j)) (hk : ∃ n, kindB k bs.length c.length c n = true) (i : Nat) (hi : i < bs.length) (v : Int) (hv : 0 ≤ v) :
    passS k c N bs i v = true → passS k c N cs i v = true := by
  obtain ⟨n, hk⟩ := hk
  have one : ∀ j w, j < bs.length → oneB (at' bs j) w = false → oneB (at' cs j) w = false := fun j w hj hh => by
    rw [Bool.eq_false_iff] at hh ⊢
    exact fun hc => hh ((h j hj).one hc)
  cases k with
  | sum =>
    have := low_mono c bs cs i h bs.length (Nat.le_refl _)
    simp only [passS, Bool.and_eq_true, decide_eq_true_eq, ← hl]; omega
  | most =>
    have := low_mono c bs cs i h bs.length (Nat.le_refl _)
    simp only [passS, decide_eq_true_eq, ← hl]; omega
  | unlike =>
    simp only [kindB, Bool.and_eq_true, decide_eq_true_eq] at hk
    simp only [passS]
    split
    · intro hh; simp only [Bool.not_eq_true'] at hh ⊢; exact one 1 _ (by omega) hh
    · intro hh; simp only [Bool.not_eq_true'] at hh ⊢; exact one 0 _ (by omega) hh
  | distinct =>
    simp only [passS, List.all_eq_true, List.mem_range, Bool.or_eq_true, Bool.not_eq_true', ← hl]
    intro hh j hj
    exact (hh j hj).imp id (one j _ hj)
  | product =>
    simp only [kindB, Bool.and_eq_true, decide_eq_true_eq] at hk
    have e0 := (h 0 (by omega)).ends
    have e1 := (h 1 (by omega)).ends
    have e2 := (h 2 (by omega)).ends
    simp only [passS]
    split
    · simp only [Bool.and_eq_true, decide_eq_true_eq]
      have m1 : mn (at' cs 0) * mn (at' cs 1) ≤ mn (at' bs 0) * mn (at' bs 1) := Int.mul_le_mul e0.2.1 e1.2.1 e1.1 (by omega)
      have m2 : mx (at' bs 0) * mx (at' bs 1) ≤ mx (at' cs 0) * mx (at' cs 1) := Int.mul_le_mul e0.2.2.2.1 e1.2.2.2.1 (by omega) (by omega)
      omega
    · have e3 := (h (1 - i) (by omega)).ends
      simp only [Bool.and_eq_true, decide_eq_true_eq]
      have m1 : v * mn (at' cs (1 - i)) ≤ v * mn (at' bs (1 - i)) := Int.mul_le_mul_of_nonneg_left e3.2.1 hv
      have m2 : v * mx (at' bs (1 - i)) ≤ v * mx (at' cs (1 - i)) := Int.mul_le_mul_of_nonneg_left e3.2.2.2.1 hv
      omega
  | element =>
    simp only [kindB, Bool.and_eq_true, decide_eq_true_eq] at hk
    simp only [passS]
    split
    · simp only [Bool.and_eq_true]
      exact fun hh => ⟨hh.1, hh.2.1, (h 1 (by omega)).sub _ hh.2.2⟩
    · simp only [List.any_eq_true, Bool.and_eq_true]
      rintro ⟨j, hj, h1, h2⟩
      exact ⟨j, hj, h1, (h 0 (by omega)).sub _ h2⟩
  | max =>
    simp only [kindB, Bool.and_eq_true, decide_eq_true_eq] at hk
    have e0 := (h 0 (by omega)).ends
    have e1 := (h 1 (by omega)).ends
    have e2 := (h 2 (by omega)).ends
    simp only [passS]
    split
    · simp only [Bool.and_eq_true, decide_eq_true_eq]; omega
    · have e3 := (h (1 - i) (by omega)).ends
      simp only [Bool.and_eq_true, Bool.or_eq_true, decide_eq_true_eq]; omega
  | reify =>
    simp only [kindB, Bool.and_eq_true, decide_eq_true_eq] at hk
    have e1 := (h 1 (by omega)).ends
    have e2 := (h 2 (by omega)).ends
    have o1 : oneB (at' cs 0) 1 = true → oneB (at' bs 0) 1 = true := (h 0 (by omega)).one
    have o0 : oneB (at' cs 0) 0 = true → oneB (at' bs 0) 0 = true := (h 0 (by omega)).one
    simp only [passS, reifS]
    split
    · simp only [Bool.and_eq_true, Bool.or_eq_true, decide_eq_true_eq]; omega
    · split
      · simp only [Bool.and_eq_true, Bool.not_eq_true', Bool.and_eq_false_iff, decide_eq_false_iff_not]
        rintro ⟨h1, h2⟩
        refine ⟨?_, ?_⟩
        · rcases h1 with h1 | h1
          · left; rw [Bool.eq_false_iff] at h1 ⊢; exact fun hc => h1 (o1 hc)
          · right; omega
        · rcases h2 with h2 | h2
          · left; rw [Bool.eq_false_iff] at h2 ⊢; exact fun hc => h2 (o0 hc)
          · right; omega
      · simp only [Bool.and_eq_true, Bool.not_eq_true', Bool.and_eq_false_iff, decide_eq_false_iff_not]
        rintro ⟨h1, h2⟩
        refine ⟨?_, ?_⟩
        · rcases h1 with h1 | h1
          · left; rw [Bool.eq_false_iff] at h1 ⊢; exact fun hc => h1 (o1 hc)
          · right; omega
        · rcases h2 with h2 | h2
          · left; rw [Bool.eq_false_iff] at h2 ⊢; exact fun hc => h2 (o0 hc)
          · right; omega
  | apart =>
    simp only [kindB, Bool.and_eq_true, decide_eq_true_eq] at hk
    have e0 := (h 0 (by omega)).ends
    have e1 := (h 1 (by omega)).ends
    simp only [passS]
    split
    · simp only [Bool.or_eq_true, decide_eq_true_eq]; omega
    · simp only [Bool.or_eq_true, decide_eq_true_eq]; omega
  | other => simp [kindB] at hk

theorem bs_at {p : PropS} {l : List Dm} {j : Nat} (hj : j < p.vars.length) : at' (bsOf p l) j = at' l (px p.vars j) := by
  have hlen : (bsOf p l).length = p.vars.length := by simp [bsOf]
  rw [show at' (bsOf p l) j = (bsOf p l)[j]'(by omega) from getD_get (by omega) _]
  simp only [bsOf, List.getElem_map]
  exact getL_px hj

/-- What a propagator keeps of less is less. -/
theorem keep_mono (p : PropS) {l m : List Dm} (hl : VDs l) (hm : VDs m) (hlen : l.length = m.length) (hp : propB p l.length = true) (hs : Sub l m) : Sub (keepS p l) (keepS p m) := by
  have hv := varsOk_of hp
  have hv' : VarsOk p.vars m.length := by rw [← hlen]; exact hv
  intro x v h
  obtain ⟨h1, h2⟩ := (keep_mem p l hl hv x v).1 h
  refine (keep_mem p m hm hv' x v).2 ⟨hs x v h1, ?_⟩
  have hsub0 : ∀ y, at' m y = [] → at' l y = [] := fun y hy => (inD_empty (hl.at y)).2 fun u => by
    rw [Bool.eq_false_iff]; intro hu
    have := hs y u hu
    unfold InS at this; rw [hy] at this; cases this
  by_cases hem : hasEmpty p m = true
  · obtain ⟨j, hj, hje⟩ := (hasEmpty_iff p m).1 hem
    have hel : hasEmpty p l = true := (hasEmpty_iff p l).2 ⟨j, hj, hsub0 _ hje⟩
    rw [if_pos hel] at h2
    rw [if_pos hem]; exact h2
  · rw [if_neg hem]
    intro j hj hjx
    by_cases hel : hasEmpty p l = true
    · rw [if_pos hel] at h2; exact absurd hjx (h2 j hj)
    · rw [if_neg hel] at h2
      have full : ∀ (z : List Dm), VDs z → ¬ hasEmpty p z = true → ∀ y, y < p.vars.length → Full (at' z (px p.vars y)) := fun z hz hne y hy => ⟨hz.at _, fun e => hne ((hasEmpty_iff p z).2 ⟨y, hy, e⟩)⟩
      have hb : (bsOf p l).length = p.vars.length := by simp [bsOf]
      have hb' : (bsOf p m).length = p.vars.length := by simp [bsOf]
      simp only [propB, Bool.and_eq_true] at hp
      refine pass_mono _ _ _ (bsOf p l) (bsOf p m) (by omega) (fun y hy => ?_) ⟨p.n, by rw [hb]; exact hp.2⟩ j (by omega) v (h1.bound hl).1 (h2 j hj hjx)
      rw [hb] at hy
      rw [bs_at hy, bs_at hy]
      exact ⟨full l hl hel y hy, full m hm hem y hy, fun u hu => hs _ _ hu⟩

/-! ### Fixpoints -/
/-- all of ps keep l whole, and no domain is empty -/
structure FixP (ps : List PropS) (z : List Dm) : Prop where
  vd : VDs z
  keep : ∀ p ∈ ps, keepS p z = z
  ok : failedB z = false
theorem failed_sub {z l : List Dm} (hz : VDs z) (hlen : z.length = l.length) (hs : Sub z l) (hf : failedB l = true) : failedB z = true := by
  simp only [failedB, List.any_eq_true, decide_eq_true_eq] at hf ⊢
  obtain ⟨d, hd, rfl⟩ := hf
  obtain ⟨i, hi, he⟩ := List.mem_iff_getElem.1 hd
  refine ⟨z[i]'(by omega), List.getElem_mem _, ?_⟩
  refine (inD_empty (hz _ (List.getElem_mem _))).2 fun v => ?_
  rw [Bool.eq_false_iff]; intro hv
  have h1 : InS z i v := by unfold InS; rw [at_get (by omega)]; exact hv
  have := hs i v h1
  unfold InS at this; rw [at_get hi, he] at this; cases this

theorem rnd_some : ∀ {ps : List PropS} {l l' : List Dm} {q q' : Bool}, VDs l → (∀ p ∈ ps, propB p l.length = true) → rnd ps l q = some (l', q') →
    VDs l' ∧ l'.length = l.length ∧ Sub l' l ∧ (∀ z, FixP ps z → z.length = l.length → Sub z l → Sub z l') ∧ (q' = false → q = false ∧ l' = l ∧ ∀ p ∈ ps, keepS p l = l)
  | [], l, l', q, q', hl, _, h => by
    rw [rnd] at h; cases h
    exact ⟨hl, rfl, Sub.refl _, fun z _ _ hs => hs, fun e => ⟨e, rfl, by simp⟩⟩
  | p :: ps, l, l', q, q', hl, hp, h => by
    rw [rnd] at h
    split at h
    · cases h
    have hpp := hp p List.mem_cons_self
    have hok := varsOk_of hpp
    obtain ⟨h1, h2, h3, h4, h5⟩ := rnd_some (keepS_vd p hl) (fun p' hp' => by rw [keepS_len]; exact hp p' (List.mem_cons_of_mem _ hp')) h
    have hs0 : Sub (keepS p l) l := fun x v hh => keep_sub p l hl hok hh
    refine ⟨h1, h2.trans (keepS_len p l), h3.trans hs0, fun z hz hzl hzs => ?_, fun e => ?_⟩
    · refine h4 z ⟨hz.vd, fun p' hp' => hz.keep p' (List.mem_cons_of_mem _ hp'), hz.ok⟩ (by rw [keepS_len]; exact hzl) ?_
      have := keep_mono p hz.vd hl hzl (by rw [hzl]; exact hpp) hzs
      rwa [hz.keep p List.mem_cons_self] at this
    · obtain ⟨e1, e2, e3⟩ := h5 e
      have hq : q = false ∧ lessS p l = false := by simpa using e1
      have hk : keepS p l = l := by
        apply Classical.byContradiction; intro hne
        have := (less_iff p l hl hok).2 hne
        rw [hq.2] at this; cases this
      refine ⟨hq.1, by rw [e2, hk], fun p' hp' => ?_⟩
      rcases List.mem_cons.1 hp' with rfl | hp'
      · exact hk
      · have := e3 p' hp'; rwa [hk] at this
theorem rnd_none : ∀ {ps : List PropS} {l : List Dm} {q : Bool}, VDs l → (∀ p ∈ ps, propB p l.length = true) → rnd ps l q = none → ∀ z, FixP ps z → z.length = l.length → Sub z l → False
  | [], l, q, _, _, h => by rw [rnd] at h; cases h
  | p :: ps, l, q, hl, hp, h => fun z hz hzl hzs => by
    rw [rnd] at h
    split at h
    · rename_i hf
      have := failed_sub hz.vd hzl hzs hf
      rw [hz.ok] at this; cases this
    have hpp := hp p List.mem_cons_self
    refine rnd_none (keepS_vd p hl) (fun p' hp' => by rw [keepS_len]; exact hp p' (List.mem_cons_of_mem _ hp')) h z ⟨hz.vd, fun p' hp' => hz.keep p' (List.mem_cons_of_mem _ hp'), hz.ok⟩ (by rw [keepS_len]; exact hzl) ?_
    have := keep_mono p hz.vd hl hzl (by rw [hzl]; exact hpp) hzs
    rwa [hz.keep p List.mem_cons_self] at this

/-- What Fix answers is the greatest fixpoint below, or there is none. -/
theorem fix_sound {ps : List PropS} {l : List Dm} {r : Option (List Dm)} (h : FixR ps l r) : VDs l → (∀ p ∈ ps, propB p l.length = true) →
    (∀ m, r = some m → FixP ps m ∧ m.length = l.length ∧ Sub m l) ∧ ∀ z, FixP ps z → z.length = l.length → Sub z l → ∃ m, r = some m ∧ Sub z m := by
  induction h with
  | fail h =>
    intro hl hp
    exact ⟨(fun m hm => by cases hm), fun z hz hzl hzs => (rnd_none hl hp h z hz hzl hzs).elim⟩
  | @stop l l' h =>
    intro hl hp
    obtain ⟨h1, h2, h3, h4, h5⟩ := rnd_some hl hp h
    obtain ⟨_, rfl, hk⟩ := h5 rfl
    constructor
    · intro m hm
      split at hm
      · cases hm
      · rename_i hf; cases hm
        exact ⟨⟨hl, hk, by simpa using hf⟩, rfl, Sub.refl _⟩
    · intro z hz hzl hzs
      split
      · rename_i hf
        have := failed_sub hz.vd hzl hzs hf
        rw [hz.ok] at this; cases this
      · exact ⟨_, rfl, hzs⟩
  | @more l l' r h _ ih =>
    intro hl hp
    obtain ⟨h1, h2, h3, h4, _⟩ := rnd_some hl hp h
    obtain ⟨k1, k2⟩ := ih h1 (fun p hp' => by rw [h2]; exact hp p hp')
    refine ⟨fun m hm => ?_, fun z hz hzl hzs => k2 z hz (by omega) (h4 z hz hzl hzs)⟩
    obtain ⟨a, b, c⟩ := k1 m hm
    exact ⟨a, by omega, c.trans h3⟩
end Go.Proofs.Ytggfnakhmjkoeaa

namespace Go.Proofs.Ytggfnakhmjkoeaa
open Go Go.V Go.Proofs
open Go.RowKit (Below)
/-! manystrand/manystrandlaw06.DomainShrinks -/
def N5 (a1 : Option Addr) (l1 : Nat) (c1 : Nat) (a2 : Option Addr) (l2 : Nat) (c2 : Nat) (a3 : Option Addr) (l3 : Nat) (_c3 : Nat) (K : Bool → World → Prop) (w : World) : Prop :=
  ∃ (J4 : Bool → World → Prop),
  (∀ (w5 : World) (p6 : Bool), J4 p6 w5 →
    BoolK p6
    (Calls Try.prog 12 #[] w5 fun e9 w8 =>
      ∃ (p7 : Bool), e9 = .returned (.bool p7) ∧
      (K p7 w8))
    (∃ (I10 : Option Addr → Nat → Nat → Int → World → Prop) (μ11 : Option Addr → Nat → Nat → Int → World → Nat),
      (I10 none 0 0 0 w5 ∧ True) ∧
      ∀ (w12 : World) (a13 : Option Addr) (l13 : Nat) (c13 : Nat) (x14 : Int), I10 a13 l13 c13 x14 w12 →
      BoolK (decide ((x14 : Int) < (l2 : Nat)))
      (DrewK w12 fun w15 =>
        (0 ≤ (x14 : Int) ∧ (x14 : Int) < (l2 : Nat)) ∧
        AddrK a2 fun b16 =>
        ∃ (a17 : Option Addr) (l17 : Nat) (c17 : Nat), w15.cell? (b16.add ((x14 : Int).toNat * 1)) = some (.slice a17 l17 c17) ∧
        ((0 ≤ (x14 : Int) ∧ (x14 : Int) < (l3 : Nat)) ∧
          AddrK a3 fun b18 =>
          ∃ (a19 : Option Addr) (l19 : Nat) (c19 : Nat), w15.cell? (b18.add ((x14 : Int).toNat * 1)) = some (.slice a19 l19 c19) ∧
          (Calls Try.prog 23 #[(.slice a17 l17 c17), (.slice a19 l19 c19)] w15 fun e23 w22 =>
            ∃ (a20 : Option Addr), ∃ (l20 : Nat), ∃ (c20 : Nat), ∃ (x21 : Int), e23 = .returned (.tuple #[(.slice a20 l20 c20), (.int .i64 x21)]) ∧
            (Below w15.heap.size w15 w22 ∧
              (BoolK ((x21 : Int) != 0)
                (Calls Try.prog 12 #[] w22 fun e26 w25 =>
                  ∃ (p24 : Bool), e26 = .returned (.bool p24) ∧
                  (K p24 w25))
                (AllocK w22 (#[(.slice a20 l20 c20)]) 38 fun b27 w28 =>
                  ∃ (a29 : Option Addr), ∃ (l29 : Nat), ∃ (c29 : Nat), ∃ (w30 : World), Sem.run Try.prog (Builtin.append_ #[25, 25] 25 #[(.slice a13 l13 c13), (.slice (some b27) 1 1)]) w28 = .ok (.slice a29 l29 c29) w30 ∧
                  (I10 a29 l29 c29 (IntKind.wrap .i64 (x14 + 1)) w30 ∧ μ11 a29 l29 c29 (IntKind.wrap .i64 (x14 + 1)) w30 < μ11 a13 l13 c13 x14 w12)))))))
      (Calls Try.prog 19 #[(.slice a1 l1 c1), (.slice a2 l2 c2)] w12 fun e34 w33 =>
        ∃ (a31 : Option Addr), ∃ (l31 : Nat), ∃ (c31 : Nat), ∃ (x32 : Int), e34 = .returned (.tuple #[(.slice a31 l31 c31), (.int .i64 x32)]) ∧
        (Calls Try.prog 19 #[(.slice a1 l1 c1), (.slice a13 l13 c13)] w33 fun e38 w37 =>
          ∃ (a35 : Option Addr), ∃ (l35 : Nat), ∃ (c35 : Nat), ∃ (x36 : Int), e38 = .returned (.tuple #[(.slice a35 l35 c35), (.int .i64 x36)]) ∧
          (∃ (J39 : Bool → World → Prop),
            (∀ (w40 : World) (p41 : Bool), J39 p41 w40 →
              BoolK p41
              (BoolK ((x32 : Int) != 60)
                (BoolK (((x32 : Int) == 2) == ((x36 : Int) == 2))
                  (Calls Try.prog 12 #[] w40 fun e44 w43 =>
                    ∃ (p42 : Bool), e44 = .returned (.bool p42) ∧
                    (K p42 w43))
                  (K false w40))
                (BoolK ((x36 : Int) == 60)
                  (BoolK (((x32 : Int) == 2) == ((x36 : Int) == 2))
                    (Calls Try.prog 12 #[] w40 fun e47 w46 =>
                      ∃ (p45 : Bool), e47 = .returned (.bool p45) ∧
                      (K p45 w46))
                    (K false w40))
                  (K false w40)))
              (BoolK (((l31 : Nat) : Int) != (l35 : Nat))
                (K false w40)
                (∃ (I48 : Int → World → Prop) (μ49 : Int → World → Nat),
                  (I48 0 w40 ∧ True) ∧
                  ∀ (w50 : World) (x51 : Int), I48 x51 w50 →
                  BoolK (decide ((x51 : Int) < (l31 : Nat)))
                  (DrewK w50 fun w52 =>
                    (0 ≤ (x51 : Int) ∧ (x51 : Int) < (l35 : Nat)) ∧
                    AddrK a35 fun b53 =>
                    ∃ (a54 : Option Addr) (l54 : Nat) (c54 : Nat), w52.cell? (b53.add ((x51 : Int).toNat * 1)) = some (.slice a54 l54 c54) ∧
                    ((0 ≤ (x51 : Int) ∧ (x51 : Int) < (l31 : Nat)) ∧
                      AddrK a31 fun b55 =>
                      ∃ (a56 : Option Addr) (l56 : Nat) (c56 : Nat), w52.cell? (b55.add ((x51 : Int).toNat * 1)) = some (.slice a56 l56 c56) ∧
                      (Calls Try.prog 24 #[(.slice a54 l54 c54), (.slice a56 l56 c56)] w52 fun e60 w59 =>
                        ∃ (a57 : Option Addr), ∃ (l57 : Nat), ∃ (c57 : Nat), ∃ (x58 : Int), e60 = .returned (.tuple #[(.slice a57 l57 c57), (.int .i64 x58)]) ∧
                        (Below w52.heap.size w52 w59 ∧
                          (BoolK ((x58 : Int) != 0)
                            (K false w59)
                            (BoolK (decide (((l57 : Nat) : Int) > 0))
                              (K false w59)
                              (I48 (IntKind.wrap .i64 (x51 + 1)) w59 ∧ μ49 (IntKind.wrap .i64 (x51 + 1)) w59 < μ49 x51 w50)))))))
                  (Calls Try.prog 12 #[] w50 fun e63 w62 =>
                    ∃ (p61 : Bool), e63 = .returned (.bool p61) ∧
                    (K p61 w62))))) ∧
            (BoolK ((x32 : Int) != 0)
              (J39 true w37)
              (J39 ((x36 : Int) != 0) w37))))))) ∧
  (Calls Try.prog 18 #[(.slice a2 l2 c2), (.slice a1 l1 c1)] w fun e66 w65 =>
    ∃ (p64 : Bool), e66 = .returned (.bool p64) ∧
    (BoolK (!p64)
      (J4 true w65)
      (J4 (((l3 : Nat) : Int) != (l2 : Nat)) w65)))
def ann5 : Ann := (.two .nil (.two (.cut [(28, (.one .bool))] [0, 1, 2] .nil (.two (.two .nil .nil) .nil)) (.two .nil (.two (.two .nil (.one (.loop [(7, (.one .slice)), (32, (.one (.int .i64)))] [0, 1, 2, 31] (.two .nil (.two (.two .nil .nil) (.two (.one (.two .nil (.two (.any 14 (.take 0 (.take 1 (.take 2 (.take 3 (.take 4 (.take 5 (.take 6 (.take 7 (.one 8 (.take 9 (.take 10 (.take 11 (.take 12 (.take 13 .done))))))))))))))) (.two (.two .nil (.two (.two .nil .nil) .nil)) .nil)))) .nil)))))) (.two .nil (.two .nil (.two (.cut [(72, (.one .bool))] [11, 12, 13, 14] .nil (.two (.two .nil .nil) .nil)) (.two (.two .nil (.two (.two .nil .nil) .nil)) (.two (.two .nil (.one (.loop [(96, (.one (.int .i64)))] [11, 13, 95] (.two .nil (.two (.two .nil .nil) (.two (.one (.two .nil (.two (.any 14 (.take 0 (.take 1 (.take 2 (.take 3 (.take 4 (.take 5 (.take 6 (.take 7 (.one 8 (.take 9 (.take 10 (.take 11 (.take 12 (.take 13 .done))))))))))))))) (.two .nil (.two (.two .nil .nil) .nil))))) .nil)))))) (.two .nil .nil))))))))))
noncomputable def code5 : Code := match Try.f5.body with | some c => c | none => .skip
theorem wp5 (a1 : Option Addr) (l1 : Nat) (c1 : Nat) (a2 : Option Addr) (l2 : Nat) (c2 : Nat) (a3 : Option Addr) (l3 : Nat) (c3 : Nat) (K : Bool → World → Prop) (w : World) : WP Try.prog tab code5 ann5 (fnQ tab Try.f5.results.toList [(.one .bool)] K) (argE 0 [(.slice a1 l1 c1), (.slice a2 l2 c2), (.slice a3 l3 c3)]) w = N5 a1 l1 c1 a2 l2 c2 a3 l3 c3 K w := by kernel_rfl
theorem calls5 (a1 : Option Addr) (l1 : Nat) (c1 : Nat) (a2 : Option Addr) (l2 : Nat) (c2 : Nat) (a3 : Option Addr) (l3 : Nat) (c3 : Nat) (K : Bool → World → Prop) (w : World) (h : N5 a1 l1 c1 a2 l2 c2 a3 l3 c3 K w) : Calls Try.prog 5 #[(.slice a1 l1 c1), (.slice a2 l2 c2), (.slice a3 l3 c3)] w fun en w' => ∃ (p67 : Bool), en = .returned (.bool p67) ∧ K p67 w' :=
  have e : (fun en w' => ExShs [(.one .bool)] fun vs => en = .returned (tupled vs) ∧ ap [(.one .bool)] K vs fun p => p w') = (fun (en : Ending) (w' : World) => ∃ (p67 : Bool), en = .returned (.bool p67) ∧ K p67 w') := by kernel_rfl
  e ▸ fn_sound tabOk mixed Try.func5 (by kernel_rfl : Try.f5.body = some code5) ann5 [(.slice a1 l1 c1), (.slice a2 l2 c2), (.slice a3 l3 c3)] [(.one .bool)] K w (by kernel_rfl) ((wp5 a1 l1 c1 a2 l2 c2 a3 l3 c3 K w).symm ▸ h)
end Go.Proofs.Ytggfnakhmjkoeaa

namespace Go.Proofs.Ytggfnakhmjkoeaa
open Go Go.V Go.Proofs
open Go.RowKit (Below)

theorem bothS_some {rule : Bool → Bool → Bool} {d e r : Dm} (h : bothS rule d e = some r) : VD d ∧ VD e ∧ VD r ∧ r = rngs (fun v => rule (inD d v) (inD e v)) 1001 := by
  unfold bothS at h
  split at h
  · rename_i hv
    simp only [Bool.and_eq_true, validB_iff] at hv
    cases h
    exact ⟨hv.1, hv.2, (rngs_ok _ 1001 (by omega)).1, rfl⟩
  · cases h
theorem meet_sub {d e r : Dm} (h : bothS rMeet d e = some r) {v : Int} (hv : inD r v = true) : inD d v = true := by
  obtain ⟨_, _, _, rfl⟩ := bothS_some h
  rw [inD_rngs, Bool.and_eq_true, decide_eq_true_eq] at hv
  have h2 := hv.2
  rw [show ((v.toNat : Nat) : Int) = v by omega, rMeet, Bool.and_eq_true] at h2
  exact h2.1
theorem minus_nil {d e : Dm} (hd : VD d) (he : VD e) (h : ∀ v, inD d v = true → inD e v = true) : bothS rMinus d e = some [] := by
  unfold bothS
  rw [(validB_iff d).2 hd, (validB_iff e).2 he]
  have : rngs (fun v => rMinus (inD d v) (inD e v)) 1001 = [] := (inD_empty (rngs_ok _ 1001 (by omega)).1).2 fun v => by
    rw [inD_rngs]
    cases hh : inD d ((v.toNat : Nat) : Int) with
    | false => simp [rMinus]
    | true => rw [h _ hh]; simp [rMinus]
  rw [this]; rfl
theorem usable_eq {ps : List PropS} {l m : List Dm} (hl : VDs l) (hm : VDs m) (h : l.length = m.length) : usableB ps l = usableB ps m := by
  have e : ∀ z : List Dm, VDs z → allVB z = decide (z.length ≤ 40) := fun z hz => by
    have : z.all validB = true := List.all_eq_true.2 fun d hd => (validB_iff d).2 (hz d hd)
    rw [allVB, this]; rfl
  rw [usableB, usableB, e l hl, e m hm, h]
theorem usable_props {ps : List PropS} {l : List Dm} (h : usableB ps l = true) : VDs l ∧ ∀ p ∈ ps, propB p l.length = true := by
  simp only [usableB, Bool.and_eq_true, decide_eq_true_eq, List.all_eq_true] at h
  exact ⟨(allVB_of h.1).1, h.2.2⟩

theorem c5 (w : World) (a1 : Option Addr) (l1 c1 : Nat) (a2 : Option Addr) (l2 c2 : Nat) (a3 : Option Addr) (l3 c3 : Nat) (ps : List PropS) (ls ms : List Dm)
    (hp : Props w a1 l1 ps) (hpl : l1 ≤ maxLen) (hd : Doms w a2 l2 ls) (hdl : l2 ≤ maxLen) (hds : ∀ d ∈ ls, Sm d) (hm : Doms w a3 l3 ms) (hms : ∀ d ∈ ms, Sm d) :
    Calls Try.prog 5 #[.slice a1 l1 c1, .slice a2 l2 c2, .slice a3 l3 c3] w fun en w' => en = .returned (.bool true) ∧ Ext w w' := by
  have el := hd.1
  have em := hm.1
  have key : ∀ (K : Bool → World → Prop), (∀ w', Ext w w' → K true w') → N5 a1 l1 c1 a2 l2 c2 a3 l3 c3 K w := fun K hK => by
    have awake : ∀ w0, Ext w w0 → Calls Try.prog 12 #[] w0 fun e w' => ∃ p, e = .returned (.bool p) ∧ K p w' := fun w0 h0 => by
      refine (c12 w0).mono ?_
      rintro en w9 ⟨p, rfl, rfl, hx⟩
      exact ⟨_, rfl, hK _ (h0.trans hx)⟩
    refine ⟨fun q w5 => Ext w w5 ∧ (q = false → Light ls ps ∧ ls.length = ms.length), ?_, ?_⟩
    · rintro w5 q ⟨hB, hq⟩
      refine BoolK.mk (fun _ => awake w5 hB) (fun t => ?_)
      obtain ⟨hL, hlen⟩ := hq t
      have hl50 := hL.1
      refine ⟨fun a l c i w' => ∃ (k : Nat) (sm : List Dm), i = k ∧ k ≤ ls.length ∧ sm.length = k ∧ DomsO w5.heap.size w' a l c sm ∧ (∀ i, i < k → bothS rMeet (at' ls i) (at' ms i) = some (at' sm i)) ∧ Ext w5 w', fun _ _ _ i _ => ls.length - i.toNat,
        ⟨⟨0, [], rfl, by omega, rfl, RowsO.nil _ _ _ _ _, fun i hi => by omega, Ext.refl _⟩, trivial⟩, ?_⟩
      rintro w12 a13 l13 c13 _ ⟨k, sm, rfl, hk, hsl, ho, hall, hB12⟩
      have hB12' := hB.trans hB12
      refine BoolK.mk (fun hlt => ?_) (fun hge => ?_)
      · have hlt : k < ls.length := by simp at hlt; omega
        refine DrewK.mk fun w15 hx15 => ?_
        have hB15 := hB12'.trans hx15
        obtain ⟨b1, o1, a17, l17, c17, rfl, h0, h1⟩ := domsAt hd w15 hB15 hlt
        obtain ⟨b2, o2, a19, l19, c19, rfl, g0, g1⟩ := domsAt hm w15 hB15 (i := k) (by omega)
        refine ⟨by omega, ?_⟩
        simp only [AddrK, Int.toNat_natCast, add_mk, Nat.mul_one]
        refine ⟨_, _, _, h0, by omega, _, _, _, g0, ?_⟩
        refine (c23 w15 a17 l17 c17 a19 l19 c19 _ _ h1 g1 (hds _ (List.getElem_mem _)).1 (hms _ (List.getElem_mem _)).1).mono ?_
        rintro en w22 ⟨a20, l20, c20, x21, rfl, hres, hx22⟩
        refine ⟨_, _, _, _, rfl, hx22, ?_⟩
        have hB22 := hB15.trans hx22
        cases hr : bothS rMeet ls[k] ms[k] with
        | none =>
          rw [hr] at hres
          obtain ⟨rfl, rfl, rfl⟩ := hres
          exact BoolK.mk (fun _ => awake w22 hB22) (fun t => by simp at t)
        | some r =>
          rw [hr] at hres
          obtain ⟨rfl, hor, hrl⟩ := hres
          refine BoolK.mk (fun t => by simp at t) (fun _ => ?_)
          refine RowsO.push RPair.mono RPair.leaf RPair.some0 slt25 (ho.ext RPair.mono (hx15.trans hx22)) ((hB12.trans hx15).trans hx22).size (by rw [hsl]; omega) hor.dom ?_ fun a4 c4 w' ho' hb' => ?_
          · obtain ⟨S, _, hS, _⟩ := ho
            exact .inr fun p hp e => by have := (hS.lt _ e.symm).2; have := (hor.lt p.block (by rw [hp]; rfl)).1; have := hx15.size; omega
          · rw [wrap_succ (by omega)]
            refine ⟨⟨k + 1, sm ++ [r], rfl, by omega, by simp [hsl], ho', fun i hi => ?_, Below.trans ((hB12.trans hx15).trans hx22) hb'⟩, by simp; omega⟩
            rcases Nat.lt_or_ge i k with hik | hik
            · have e1 : at' (sm ++ [r]) i = at' sm i := by rw [at_get (by simp; omega), at_get (by omega), List.getElem_append_left (by omega)]
              rw [e1]; exact hall i hik
            · have : i = k := by omega
              subst this
              have e1 : at' (sm ++ [r]) i = r := by rw [at_get (by simp; omega), List.getElem_append_right (by omega)]; simp [hsl]
              rw [e1, at_get hlt, at_get (by omega), hr]
      have : k = ls.length := by simp at hge; omega
      subst this
      -- small is within l
      have hVl : VDs ls := fun d hdm => by
        obtain ⟨i, hi, rfl⟩ := List.mem_iff_getElem.1 hdm
        have := bothS_some (hall i hi); rw [at_get hi] at this; exact this.1
      have hVs : VDs sm := fun d hdm => by
        obtain ⟨i, hi, rfl⟩ := List.mem_iff_getElem.1 hdm
        have := bothS_some (hall i (by omega)); rw [at_get (l := sm) hi] at this; exact this.2.2.1
      have hsub : Sub sm ls := fun x v hx => meet_sub (hall x (by have := hx.lt; omega)) hx
      refine (c19 w12 a1 l1 c1 ps (hp.ext RProp.mono hB12') a2 l2 c2 ls (hd.ext (RSl.mono RPair.mono) hB12') (by omega) hds).mono ?_
      rintro en w33 ⟨a31, l31, c31, x32, rfl, res1, hx33⟩
      refine ⟨_, _, _, _, rfl, ?_⟩
      have hB33 := hB12'.trans hx33
      refine (c19 w33 a1 l1 c1 ps (hp.ext RProp.mono hB33) a13 l13 c13 sm (ho.doms.ext (RSl.mono RPair.mono) hx33) (by omega) (fun d hd => (hVs d hd).sm)).mono ?_
      rintro en w37 ⟨a35, l35, c35, x36, rfl, res2, hx37⟩
      refine ⟨_, _, _, _, rfl, ?_⟩
      have hB37 := hB33.trans hx37
      have hU := usable_eq (ps := ps) hVl hVs hsl.symm
      refine ⟨fun q w40 => w40 = w37 ∧ q = ((x32 != 0) || (x36 != 0)), ?_, ?_⟩
      · rintro w40 q ⟨rfl, rfl⟩
        rcases res1 with ⟨u1, rfl, rfl, rfl⟩ | ⟨u1, r1, f1, res1⟩
        · rcases res2 with ⟨_, rfl, rfl, rfl⟩ | ⟨u2, _⟩
          · refine BoolK.mk (fun _ => BoolK.mk (fun _ => BoolK.mk (fun _ => awake w40 hB37) (fun t => by simp at t)) (fun t => by simp at t)) (fun t => by simp at t)
          · rw [← hU, u1] at u2; cases u2
        · rcases res2 with ⟨u2, _⟩ | ⟨u2, r2, f2, res2⟩
          · rw [← hU, u1] at u2; cases u2
          have ⟨_, hpr1⟩ := usable_props u1
          have ⟨_, hpr2⟩ := usable_props u2
          have S1 := fix_sound f1 hVl hpr1
          have S2 := fix_sound f2 hVs hpr2
          rcases res1 with ⟨rfl, rfl, rfl, rfl⟩ | ⟨A, rfl, VA, LA, rfl, oA⟩
          · rcases res2 with ⟨rfl, rfl, rfl, rfl⟩ | ⟨B, rfl, VB, LB, rfl, oB⟩
            · refine BoolK.mk (fun _ => BoolK.mk (fun t => by simp at t) (fun _ => BoolK.mk (fun _ => BoolK.mk (fun _ => awake w40 hB37) (fun t => by simp at t)) (fun t => by simp at t))) (fun t => by simp at t)
            · obtain ⟨hB1, hB2, hB3⟩ := S2.1 B rfl
              obtain ⟨m, hm0, _⟩ := S1.2 B hB1 (by omega) (hB3.trans hsub)
              cases hm0
          · rcases res2 with ⟨rfl, rfl, rfl, rfl⟩ | ⟨B, rfl, VB, LB, rfl, oB⟩
            · refine BoolK.mk (fun _ => BoolK.mk (fun _ => BoolK.mk (fun _ => awake w40 hB37) (fun t => by simp at t)) (fun t => by simp at t)) (fun t => by simp at t)
            · obtain ⟨hB1, hB2, hB3⟩ := S2.1 B rfl
              obtain ⟨m, hm0, hBA⟩ := S1.2 B hB1 (by omega) (hB3.trans hsub)
              cases hm0
              have lA := oA.len
              have lB := oB.len
              refine BoolK.mk (fun t => by simp at t) (fun _ => ?_)
              refine BoolK.mk (fun t => by simp at t; omega) (fun _ => ?_)
              have dA := oA.doms.ext (RSl.mono RPair.mono) hx37
              have dB := oB.doms
              refine ⟨fun i w' => ∃ k : Nat, i = k ∧ k ≤ l31 ∧ Ext w40 w', fun i _ => l31 - i.toNat, ⟨⟨0, rfl, by omega, Ext.refl _⟩, trivial⟩, ?_⟩
              rintro w50 _ ⟨k, rfl, hk, hB50⟩
              refine BoolK.mk (fun hlt => ?_) (fun hge => ?_)
              · have hlt : k < l31 := by simp at hlt; omega
                refine DrewK.mk fun w52 hx52 => ?_
                have hB52 := hB50.trans hx52
                obtain ⟨b1, o1, a54, l54, c54, rfl, h0, h1⟩ := domsAt dB w52 hB52 (i := k) (by omega)
                obtain ⟨b2, o2, a56, l56, c56, rfl, g0, g1⟩ := domsAt dA w52 hB52 (i := k) (by omega)
                refine ⟨by omega, ?_⟩
                simp only [AddrK, Int.toNat_natCast, add_mk, Nat.mul_one]
                refine ⟨_, _, _, h0, by omega, _, _, _, g0, ?_⟩
                have vB := VB _ (List.getElem_mem (show k < B.length by omega))
                have vA := VA _ (List.getElem_mem (show k < A.length by omega))
                have hn : bothS rMinus B[k] A[k] = some [] := minus_nil vB vA fun v hv => by
                  have := hBA k v (by unfold InS; rw [at_get (by omega)]; exact hv)
                  unfold InS at this; rwa [at_get (by omega)] at this
                refine (c24 w52 a54 l54 c54 a56 l56 c56 _ _ h1 g1 vB.sm.1 vA.sm.1).mono ?_
                rintro en w59 ⟨a57, l57, c57, x58, rfl, hres, hx59⟩
                rw [hn] at hres
                obtain ⟨rfl, hor, _⟩ := hres
                have hl57 : l57 = 0 := hor.1
                subst hl57
                refine ⟨_, _, _, _, rfl, hx59, BoolK.mk (fun t => by simp at t) (fun _ => BoolK.mk (fun t => by simp at t) (fun _ => ?_))⟩
                rw [wrap_succ (by omega)]
                exact ⟨⟨k + 1, rfl, by omega, hB52.trans hx59⟩, by simp; omega⟩
              · exact awake w50 (hB37.trans hB50)
      · refine BoolK.mk (fun t => ⟨rfl, by rw [t]; rfl⟩) (fun t => ⟨rfl, by rw [t]; rfl⟩)
    · refine (c18 w a2 l2 c2 a1 l1 c1 ls ps hd hds hdl hp hpl).mono ?_
      rintro en w65 ⟨q, rfl, hq, hx⟩
      refine ⟨_, rfl, BoolK.mk (fun _ => ⟨hx, fun h => by cases h⟩) (fun t => ⟨hx, fun h => ⟨hq (by simpa using t), ?_⟩⟩)⟩
      simp at h; omega
  refine (calls5 _ _ _ _ _ _ _ _ _ (fun p w' => p = true ∧ Ext w w') w (key _ fun w' hx => ⟨rfl, hx⟩)).mono ?_
  rintro en w' ⟨p, rfl, rfl, hx⟩
  exact ⟨rfl, hx⟩
end Go.Proofs.Ytggfnakhmjkoeaa
