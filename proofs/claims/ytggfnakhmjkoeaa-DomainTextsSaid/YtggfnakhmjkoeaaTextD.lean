/- A part of the proof: plain forms of functions and laws about them. -/
import Derived.Test.YtggfnakhmjkoeaaTextC
namespace Go.Proofs.Ytggfnakhmjkoeaa
open Go Go.V Go.Proofs
open Go.RowKit (Below)
/-! manystrand/manystrandref06.Text -/
def N42 (a1 : Option Addr) (l1 : Nat) (c1 : Nat) (K : ByteArray → Int → World → Prop) (w : World) : Prop :=
  Calls Try.prog 33 #[(.slice a1 l1 c1)] w fun e4 w3 =>
  ∃ (p2 : Bool), e4 = .returned (.bool p2) ∧
  (BoolK (!p2)
    (K (⟨#[]⟩ : ByteArray) 2 w3)
    (BoolK (((l1 : Nat) : Int) == 0)
      (K (⟨#[45]⟩ : ByteArray) 0 w3)
      (∃ (I5 : ByteArray → Int → World → Prop) (μ6 : ByteArray → Int → World → Nat),
        (I5 (⟨#[]⟩ : ByteArray) 0 w3 ∧ True) ∧
        ∀ (w7 : World) (s8 : ByteArray) (x9 : Int), I5 s8 x9 w7 →
        BoolK (decide ((x9 : Int) < (l1 : Nat)))
        (∃ (J10 : ByteArray → World → Prop),
          (∀ (w11 : World) (s12 : ByteArray), J10 s12 w11 →
            (0 ≤ (x9 : Int) ∧ (x9 : Int) < (l1 : Nat)) ∧
            AddrK a1 fun b13 =>
            (0 ≤ (0 : Int) ∧ (0 : Int) < (2 : Nat)) ∧
            ∃ (x14 : Int), w11.cell? ((b13.add ((x9 : Int).toNat * 2)).add ((0 : Int).toNat * 1)) = some (.int .i64 x14) ∧
            (Calls Try.prog 68 #[(.int .i64 x14)] w11 fun e17 w16 =>
              ∃ (s15 : ByteArray), e17 = .returned (.string s15) ∧
              ((((s12 : ByteArray).size + (s15 : ByteArray).size : Nat) : Int) ≤ IntKind.i64.max ∧
                (DrewK w16 fun w18 =>
                  (0 ≤ (x9 : Int) ∧ (x9 : Int) < (l1 : Nat)) ∧
                  AddrK a1 fun b19 =>
                  (0 ≤ (1 : Int) ∧ (1 : Int) < (2 : Nat)) ∧
                  ∃ (x20 : Int), w18.cell? ((b19.add ((x9 : Int).toNat * 2)).add ((1 : Int).toNat * 1)) = some (.int .i64 x20) ∧
                  ((0 ≤ (x9 : Int) ∧ (x9 : Int) < (l1 : Nat)) ∧
                    AddrK a1 fun b21 =>
                    (0 ≤ (0 : Int) ∧ (0 : Int) < (2 : Nat)) ∧
                    ∃ (x22 : Int), w18.cell? ((b21.add ((x9 : Int).toNat * 2)).add ((0 : Int).toNat * 1)) = some (.int .i64 x22) ∧
                    (BoolK (decide ((x20 : Int) > x22))
                      ((0 ≤ (x9 : Int) ∧ (x9 : Int) < (l1 : Nat)) ∧
                        AddrK a1 fun b23 =>
                        (0 ≤ (1 : Int) ∧ (1 : Int) < (2 : Nat)) ∧
                        ∃ (x24 : Int), w18.cell? ((b23.add ((x9 : Int).toNat * 2)).add ((1 : Int).toNat * 1)) = some (.int .i64 x24) ∧
                        (Calls Try.prog 68 #[(.int .i64 x24)] w18 fun e27 w26 =>
                          ∃ (s25 : ByteArray), e27 = .returned (.string s25) ∧
                          (((((⟨#[35]⟩ : ByteArray) : ByteArray).size + (s25 : ByteArray).size : Nat) : Int) ≤ IntKind.i64.max ∧
                            (((((s12 : ByteArray) ++ (s15 : ByteArray) : ByteArray).size + (((⟨#[35]⟩ : ByteArray) : ByteArray) ++ (s25 : ByteArray) : ByteArray).size : Nat) : Int) ≤ IntKind.i64.max ∧
                              (I5 (((s12 : ByteArray) ++ (s15 : ByteArray) : ByteArray) ++ (((⟨#[35]⟩ : ByteArray) : ByteArray) ++ (s25 : ByteArray) : ByteArray)) (IntKind.wrap .i64 (x9 + 1)) w26 ∧ μ6 (((s12 : ByteArray) ++ (s15 : ByteArray) : ByteArray) ++ (((⟨#[35]⟩ : ByteArray) : ByteArray) ++ (s25 : ByteArray) : ByteArray)) (IntKind.wrap .i64 (x9 + 1)) w26 < μ6 s8 x9 w7)))))
                      (I5 ((s12 : ByteArray) ++ (s15 : ByteArray)) (IntKind.wrap .i64 (x9 + 1)) w18 ∧ μ6 ((s12 : ByteArray) ++ (s15 : ByteArray)) (IntKind.wrap .i64 (x9 + 1)) w18 < μ6 s8 x9 w7))))))) ∧
          (BoolK (decide ((x9 : Int) > 0))
            ((((s8 : ByteArray).size + ((⟨#[32]⟩ : ByteArray) : ByteArray).size : Nat) : Int) ≤ IntKind.i64.max ∧
              (J10 ((s8 : ByteArray) ++ ((⟨#[32]⟩ : ByteArray) : ByteArray)) w7))
            (J10 s8 w7)))
        (K s8 0 w7))))
def ann42 : Ann := (.two .nil (.two (.two .nil (.two (.two .nil .nil) .nil)) (.two (.two .nil (.two (.two .nil .nil) .nil)) (.two .nil (.two (.two .nil (.one (.loop [(4, (.one .str)), (5, (.one (.int .i64)))] [0] (.two (.two .nil (.two .nil .nil)) (.two (.one (.cut [(4, (.one .str))] [0, 5] (.two .nil (.two .nil .nil)) (.two .nil (.two (.any 11 (.take 0 (.take 1 (.take 2 (.take 3 (.take 4 (.take 5 (.take 6 (.take 7 (.take 8 (.take 9 (.take 10 .done)))))))))))) (.two .nil .nil))))) .nil))))) (.two .nil .nil))))))
noncomputable def code42 : Code := match Try.f42.body with | some c => c | none => .skip
theorem wp42 (a1 : Option Addr) (l1 : Nat) (c1 : Nat) (K : ByteArray → Int → World → Prop) (w : World) : WP Try.prog tab code42 ann42 (fnQ tab Try.f42.results.toList [(.one .str), (.one (.int .i64))] K) (argE 0 [(.slice a1 l1 c1)]) w = N42 a1 l1 c1 K w := by kernel_rfl
theorem calls42 (a1 : Option Addr) (l1 : Nat) (c1 : Nat) (K : ByteArray → Int → World → Prop) (w : World) (h : N42 a1 l1 c1 K w) : Calls Try.prog 42 #[(.slice a1 l1 c1)] w fun en w' => ∃ (s28 : ByteArray), ∃ (x29 : Int), en = .returned (.tuple #[(.string s28), (.int .i64 x29)]) ∧ K s28 x29 w' :=
  have e : (fun en w' => ExShs [(.one .str), (.one (.int .i64))] fun vs => en = .returned (tupled vs) ∧ ap [(.one .str), (.one (.int .i64))] K vs fun p => p w') = (fun (en : Ending) (w' : World) => ∃ (s28 : ByteArray), ∃ (x29 : Int), en = .returned (.tuple #[(.string s28), (.int .i64 x29)]) ∧ K s28 x29 w') := by kernel_rfl
  e ▸ fn_sound tabOk mixed Try.func42 (by kernel_rfl : Try.f42.body = some code42) ann42 [(.slice a1 l1 c1)] [(.one .str), (.one (.int .i64))] K w (by kernel_rfl) ((wp42 a1 l1 c1 K w).symm ▸ h)
end Go.Proofs.Ytggfnakhmjkoeaa

namespace Go.Proofs.Ytggfnakhmjkoeaa
open Go Go.V Go.Proofs
open Go.RowKit (Below)

/-- the text of a range, of ranges, of a domain -/
def rngT (r : Int × Int) : List UInt8 := decN r.1.toNat ++ if r.1 < r.2 then 35 :: decN r.2.toNat else []
def tailT (d : Dm) : List UInt8 := d.flatMap fun r => 32 :: rngT r
def txt : Dm → List UInt8
  | [] => []
  | r :: rs => rngT r ++ tailT rs
def textB (d : Dm) : List UInt8 := if d = [] then [45] else txt d
theorem txt_snoc {d : Dm} (h : d ≠ []) (r : Int × Int) : txt (d ++ [r]) = txt d ++ 32 :: rngT r := by
  cases d with
  | nil => exact absurd rfl h
  | cons q qs => simp [txt, tailT]
theorem rngT_len (r : Int × Int) : (rngT r).length ≤ 9 := by
  have := (decN_len r.1.toNat).2; have := (decN_len r.2.toNat).2
  unfold rngT; split <;> simp <;> omega
theorem tailT_len (d : Dm) : (tailT d).length ≤ 10 * d.length := by
  induction d with
  | nil => simp [tailT]
  | cons r rs ih =>
    have := rngT_len r
    simp only [tailT, List.flatMap_cons, List.length_append, List.length_cons] at ih ⊢; omega
theorem txt_len (d : Dm) : (txt d).length ≤ 10 * d.length := by
  cases d with
  | nil => simp [txt]
  | cons r rs =>
    have := rngT_len r; have := tailT_len rs
    simp only [txt, List.length_append, List.length_cons]; omega
theorem rngT_lt {r : Int × Int} (h : r.1 < r.2) : rngT r = decN r.1.toNat ++ 35 :: decN r.2.toNat := by rw [rngT, if_pos h]
theorem rngT_eq {r : Int × Int} (h : ¬ r.1 < r.2) : rngT r = decN r.1.toNat := by rw [rngT, if_neg h, List.append_nil]
theorem take_snoc {d : Dm} {k : Nat} (hk : k < d.length) : d.take (k + 1) = d.take k ++ [d[k]] := by rw [List.take_add_one, List.getElem?_eq_getElem hk]; rfl
theorem max64 : IntKind.i64.max = 9223372036854775807 := by kernel_rfl

/-- what Text answers -/
def TextRes (d : Dm) (s : ByteArray) (e : Int) : Prop := if validB d then bl s = textB d ∧ e = 0 else bl s = [] ∧ e = 2

theorem c41 (w : World) (a : Option Addr) (l c : Nat) (d : Dm) (h : Dom w a l d) (hl : d.length ≤ 9223372036854775807) :
    Calls Try.prog 41 #[.slice a l c] w fun en w' => ∃ s e, en = .returned (.tuple #[.string s, .int .i64 e]) ∧ (TextRes d s e ∧ Ext w w') := by
  refine calls41 _ _ _ _ w ?_
  have e1 := h.1
  refine (c32 w a l c d h hl).mono ?_
  rintro en w3 ⟨p, rfl, rfl, hx3⟩
  refine ⟨_, rfl, BoolK.mk (fun t => ?_) (fun t => ?_)⟩
  · simp at t; exact ⟨by rw [TextRes, t]; exact ⟨rfl, rfl⟩, hx3⟩
  simp at t
  have hv := (validB_iff d).1 t
  have hlen := hv.len
  refine BoolK.mk (fun t2 => ?_) (fun t2 => ?_)
  · have : d = [] := by apply List.length_eq_zero_iff.1; simp at t2; omega
    subst this
    exact ⟨by rw [TextRes, t]; exact ⟨rfl, rfl⟩, hx3⟩
  have hne : d ≠ [] := fun e => by subst e; simp at e1; simp at t2; omega
  refine ⟨fun s i w' => ∃ k : Nat, i = k ∧ k ≤ d.length ∧ bl s = txt (d.take k) ∧ Ext w w', fun _ i _ => d.length - i.toNat, ⟨⟨0, rfl, by omega, rfl, hx3⟩, trivial⟩, ?_⟩
  rintro w7 s8 _ ⟨k, rfl, hk, hs, hB⟩
  have hs8 : s8.size ≤ 10010 := by have := txt_len (d.take k); rw [← hs, bl_size, List.length_take] at this; omega
  refine BoolK.mk (fun hlt => ?_) (fun hge => ?_)
  · have hlt : k < d.length := by simp at hlt; omega
    obtain ⟨b, o, rfl, h0, h1⟩ := domAt h w7 hB hlt
    refine ⟨by omega, ?_⟩
    simp only [AddrK, Int.toNat_natCast, add_mk, Nat.add_zero]
    refine ⟨_, h0, _, h1, local2 fun b' w16 hb' hbk hx => ?_⟩
    have hB16 := hB.trans hx
    have hr := hv.all d[k] (List.getElem_mem _)
    have c0 : ∀ w', Ext w16 w' → w'.cell? ⟨b', 0, none⟩ = some (.int .i64 d[k].1) := fun w' hw => by rw [(hbk.ext hw).cell]; rfl
    have c1 : ∀ w', Ext w16 w' → w'.cell? ⟨b', 1, none⟩ = some (.int .i64 d[k].2) := fun w' hw => by rw [(hbk.ext hw).cell]; rfl
    simp only [add_mk, Int.toNat_zero, Int.toNat_one, Nat.zero_mul, Nat.one_mul, Nat.add_zero, Nat.zero_add]
    have x1 : d[k].1 = (d[k].1.toNat : Int) := by omega
    have x2 : d[k].2 = (d[k].2.toNat : Int) := by omega
    refine ⟨fun s w' => w' = w16 ∧ s.size ≤ 10020 ∧ bl s = txt (d.take k) ++ (if k = 0 then [] else [32]), ?_, ?_⟩
    · rintro w18 s19 ⟨rfl, hsz, hs19⟩
      refine ⟨by omega, _, c0 _ (Ext.refl _), ?_⟩
      have key := c67 d[k].1.toNat (by omega) w18
      rw [← x1] at key
      refine key.mono ?_
      rintro en w22 ⟨s21, rfl, hs21, rfl⟩
      have l21 : s21.size ≤ 4 := by have := (decN_len d[k].1.toNat).2; rw [← hs21, bl_size] at this; exact this
      have hnext : ∀ s', bl s' = txt (d.take k) ++ (if k = 0 then [] else [32]) ++ rngT d[k] → bl s' = txt (d.take (k + 1)) := fun s' hh => by
        rw [hh, take_snoc hlt]
        by_cases hk0 : k = 0
        · subst hk0; simp [txt, tailT]
        · rw [if_neg hk0, txt_snoc (by intro e; have := congrArg List.length e; rw [List.length_take, List.length_nil] at this; omega)]; simp
      refine ⟨_, rfl, by rw [max64]; omega, by omega, _, c1 _ (Ext.refl _), by omega, _, c0 _ (Ext.refl _), BoolK.mk (fun t3 => ?_) (fun t3 => ?_)⟩
      · simp at t3
        refine ⟨by omega, _, c1 _ (Ext.refl _), ?_⟩
        have key := c67 d[k].2.toNat (by omega) w22
        rw [← x2] at key
        refine key.mono ?_
        rintro en w28 ⟨s27, rfl, hs27, rfl⟩
        have l27 : s27.size ≤ 4 := by have := (decN_len d[k].2.toNat).2; rw [← hs27, bl_size] at this; exact this
        have z1 : (⟨#[35]⟩ : ByteArray).size = 1 := rfl
        refine ⟨_, rfl, by rw [max64]; omega, ?_, ?_⟩
        · rw [max64]; simp only [ByteArray.size_append]; omega
        · rw [wrap_succ (by omega)]
          refine ⟨⟨k + 1, rfl, by omega, hnext _ ?_, hB16⟩, by simp; omega⟩
          rw [bl_append, bl_append, bl_append, hs19, hs21, hs27, rngT_lt (by omega)]; simp [bl_mk]
      · simp at t3
        rw [wrap_succ (by omega)]
        refine ⟨⟨k + 1, rfl, by omega, hnext _ ?_, hB16⟩, by simp; omega⟩
        rw [bl_append, hs19, hs21, rngT_eq (by omega)]
    · refine BoolK.mk (fun t3 => ?_) (fun t3 => ?_)
      · have z1 : (⟨#[32]⟩ : ByteArray).size = 1 := rfl
        refine ⟨by rw [max64]; omega, rfl, by rw [ByteArray.size_append]; omega, ?_⟩
        rw [bl_append, hs, if_neg (by simp at t3; omega)]; rfl
      · refine ⟨rfl, by omega, ?_⟩
        rw [hs, if_pos (by simp at t3; omega)]; simp
  · have : k = d.length := by simp at hge; omega
    subst this
    rw [List.take_length] at hs
    exact ⟨by rw [TextRes, t]; exact ⟨by rw [textB, if_neg hne]; exact hs, rfl⟩, hB⟩

theorem c42 (w : World) (a : Option Addr) (l c : Nat) (d : Dm) (h : Dom w a l d) (hsm : Sm d) :
    Calls Try.prog 42 #[.slice a l c] w fun en w' => ∃ s e, en = .returned (.tuple #[.string s, .int .i64 e]) ∧ (TextRes d s e ∧ Ext w w') := by
  refine calls42 _ _ _ _ w ?_
  have e1 := h.1
  refine (c33 w a l c d h hsm.1 hsm.2).mono ?_
  rintro en w3 ⟨p, rfl, rfl, hx3⟩
  refine ⟨_, rfl, BoolK.mk (fun t => ?_) (fun t => ?_)⟩
  · simp at t; exact ⟨by rw [TextRes, t]; exact ⟨rfl, rfl⟩, hx3⟩
  simp at t
  have hv := (validB_iff d).1 t
  have hlen := hv.len
  refine BoolK.mk (fun t2 => ?_) (fun t2 => ?_)
  · have : d = [] := by apply List.length_eq_zero_iff.1; simp at t2; omega
    subst this
    exact ⟨by rw [TextRes, t]; exact ⟨rfl, rfl⟩, hx3⟩
  have hne : d ≠ [] := fun e => by subst e; simp at e1; simp at t2; omega
  refine ⟨fun s i w' => ∃ k : Nat, i = k ∧ k ≤ d.length ∧ bl s = txt (d.take k) ∧ Ext w w', fun _ i _ => d.length - i.toNat, ⟨⟨0, rfl, by omega, rfl, hx3⟩, trivial⟩, ?_⟩
  rintro w7 s8 _ ⟨k, rfl, hk, hs, hB⟩
  have hs8 : s8.size ≤ 10010 := by have := txt_len (d.take k); rw [← hs, bl_size, List.length_take] at this; omega
  refine BoolK.mk (fun hlt => ?_) (fun hge => ?_)
  · have hlt : k < d.length := by simp at hlt; omega
    have hr := hv.all d[k] (List.getElem_mem _)
    have x1 : d[k].1 = (d[k].1.toNat : Int) := by omega
    have x2 : d[k].2 = (d[k].2.toNat : Int) := by omega
    refine ⟨fun s w' => w' = w7 ∧ s.size ≤ 10020 ∧ bl s = txt (d.take k) ++ (if k = 0 then [] else [32]), ?_, ?_⟩
    · rintro w11 s19 ⟨rfl, hsz, hs19⟩
      obtain ⟨b, o, rfl, h0, h1⟩ := domAt h w11 hB hlt
      simp only [AddrK, Int.toNat_natCast, add_mk, Int.toNat_zero, Int.toNat_one, Nat.zero_mul, Nat.one_mul, Nat.add_zero]
      refine ⟨by omega, by omega, _, h0, ?_⟩
      have key := c68 d[k].1.toNat (by omega) w11
      rw [← x1] at key
      refine key.mono ?_
      rintro en w22 ⟨s21, rfl, hs21, hx22⟩
      have l21 : s21.size ≤ 4 := by have := (decN_len d[k].1.toNat).2; rw [← hs21, bl_size] at this; exact this
      have hnext : ∀ s', bl s' = txt (d.take k) ++ (if k = 0 then [] else [32]) ++ rngT d[k] → bl s' = txt (d.take (k + 1)) := fun s' hh => by
        rw [hh, take_snoc hlt]
        by_cases hk0 : k = 0
        · subst hk0; simp [txt, tailT]
        · rw [if_neg hk0, txt_snoc (by intro e; have := congrArg List.length e; rw [List.length_take, List.length_nil] at this; omega)]; simp
      refine ⟨_, rfl, by rw [max64]; omega, DrewK.mk fun w23 hx23 => ?_⟩
      have hx' := hx22.trans hx23
      have hB23 := hB.trans hx'
      refine ⟨by omega, by omega, _, hx'.cell h1, by omega, by omega, _, hx'.cell h0, BoolK.mk (fun t3 => ?_) (fun t3 => ?_)⟩
      · simp at t3
        refine ⟨by omega, by omega, _, hx'.cell h1, ?_⟩
        have key := c68 d[k].2.toNat (by omega) w23
        rw [← x2] at key
        refine key.mono ?_
        rintro en w28 ⟨s27, rfl, hs27, hx28⟩
        have l27 : s27.size ≤ 4 := by have := (decN_len d[k].2.toNat).2; rw [← hs27, bl_size] at this; exact this
        have z1 : (⟨#[35]⟩ : ByteArray).size = 1 := rfl
        refine ⟨_, rfl, by rw [max64]; omega, ?_, ?_⟩
        · rw [max64]; simp only [ByteArray.size_append]; omega
        · rw [wrap_succ (by omega)]
          refine ⟨⟨k + 1, rfl, by omega, hnext _ ?_, hB23.trans hx28⟩, by simp; omega⟩
          rw [bl_append, bl_append, bl_append, hs19, hs21, hs27, rngT_lt (by omega)]; simp [bl_mk]
      · simp at t3
        rw [wrap_succ (by omega)]
        refine ⟨⟨k + 1, rfl, by omega, hnext _ ?_, hB23⟩, by simp; omega⟩
        rw [bl_append, hs19, hs21, rngT_eq (by omega)]
    · refine BoolK.mk (fun t3 => ?_) (fun t3 => ?_)
      · have z1 : (⟨#[32]⟩ : ByteArray).size = 1 := rfl
        refine ⟨by rw [max64]; omega, rfl, by rw [ByteArray.size_append]; omega, ?_⟩
        rw [bl_append, hs, if_neg (by simp at t3; omega)]; rfl
      · refine ⟨rfl, by omega, ?_⟩
        rw [hs, if_pos (by simp at t3; omega)]; simp
  · have : k = d.length := by simp at hge; omega
    subst this
    rw [List.take_length] at hs
    exact ⟨by rw [TextRes, t]; exact ⟨by rw [textB, if_neg hne]; exact hs, rfl⟩, hB⟩
end Go.Proofs.Ytggfnakhmjkoeaa

namespace Go.Proofs.Ytggfnakhmjkoeaa
open Go Go.V Go.Proofs
open Go.RowKit (Below)
/-! manystrand/domain.Parse -/
def N43 (s1 : ByteArray) (K : Option Addr → Nat → Nat → Int → World → Prop) (w : World) : Prop :=
  BoolK ((s1 : ByteArray).toList == ((⟨#[45]⟩ : ByteArray) : ByteArray).toList)
  (K none 0 0 0 w)
  (∃ (I2 : Option Addr → Nat → Nat → Int → World → Prop) (μ3 : Option Addr → Nat → Nat → Int → World → Nat),
    (I2 none 0 0 0 w ∧ True) ∧
    ∀ (w4 : World) (a5 : Option Addr) (l5 : Nat) (c5 : Nat) (x6 : Int), I2 a5 l5 c5 x6 w4 →
    Calls Try.prog 69 #[(.string s1), (.int .i64 x6)] w4 fun e10 w9 =>
    ∃ (x7 : Int), ∃ (x8 : Int), e10 = .returned (.tuple #[(.int .i64 x7), (.int .i64 x8)]) ∧
    (BoolK (decide ((x8 : Int) < 0))
      (K none 0 0 3 w9)
      (∃ (J11 : Int → Int → World → Prop),
        (∀ (w12 : World) (x13 : Int) (x14 : Int), J11 x13 x14 w12 →
          AllocK w12 (#[(.int .i64 x7), (.int .i64 x14)]) 55 fun b15 w16 =>
          ∃ (a17 : Option Addr), ∃ (l17 : Nat), ∃ (c17 : Nat), ∃ (w18 : World), Sem.run Try.prog (Builtin.append_ #[38, 38] 38 #[(.slice a5 l5 c5), (.slice (some b15) 1 1)]) w16 = .ok (.slice a17 l17 c17) w18 ∧
          (BoolK ((x13 : Int) == (s1.size : Nat))
            (Calls Try.prog 41 #[(.slice a17 l17 c17)] w18 fun e22 w21 =>
              ∃ (s19 : ByteArray), ∃ (x20 : Int), e22 = .returned (.tuple #[(.string s19), (.int .i64 x20)]) ∧
              (BoolK ((x20 : Int) != 0)
                (K none 0 0 3 w21)
                (BoolK (!((s19 : ByteArray).toList == (s1 : ByteArray).toList))
                  (K none 0 0 3 w21)
                  (K a17 l17 c17 0 w21))))
            (∃ (u23 : UInt8), (0 ≤ (x13 : Int) ∧ s1[(x13 : Int).toNat]? = some u23) ∧
              (BoolK ((u23.toNat : Int) != 32)
                (K none 0 0 3 w18)
                (I2 a17 l17 c17 (IntKind.wrap .i64 (x13 + 1)) w18 ∧ μ3 a17 l17 c17 (IntKind.wrap .i64 (x13 + 1)) w18 < μ3 a5 l5 c5 x6 w4))))) ∧
        (∃ (J24 : Bool → World → Prop),
          (∀ (w25 : World) (p26 : Bool), J24 p26 w25 →
            BoolK p26
            (Calls Try.prog 69 #[(.string s1), (.int .i64 (IntKind.wrap .i64 (x8 + 1)))] w25 fun e30 w29 =>
              ∃ (x27 : Int), ∃ (x28 : Int), e30 = .returned (.tuple #[(.int .i64 x27), (.int .i64 x28)]) ∧
              (BoolK (decide ((x28 : Int) < 0))
                (K none 0 0 3 w29)
                (J11 x28 x27 w29)))
            (J11 x8 x7 w25)) ∧
          (BoolK (decide ((x8 : Int) < (s1.size : Nat)))
            (∃ (u31 : UInt8), (0 ≤ (x8 : Int) ∧ s1[(x8 : Int).toNat]? = some u31) ∧
              (J24 ((u31.toNat : Int) == 35) w9))
            (J24 false w9))))))
def ann43 : Ann := (.two .nil (.two (.two .nil (.two (.two .nil .nil) .nil)) (.two .nil (.two (.two .nil (.one (.loop [(4, (.one .slice)), (5, (.one (.int .i64)))] [0] (.two (.one (.two .nil (.two (.two .nil (.two (.two .nil .nil) .nil)) (.two .nil (.cut [(7, (.one (.int .i64))), (8, (.one (.int .i64)))] [0, 4, 6] (.cut [(33, (.one .bool))] [0, 4, 6, 7, 8] .nil (.two (.two .nil (.two .nil (.two (.two .nil .nil) .nil))) .nil)) (.two .nil (.two (.two .nil (.two .nil .nil)) (.two (.two .nil (.two (.two .nil .nil) .nil)) .nil)))))))) .nil)))) (.two (.two .nil (.two .nil (.two (.two .nil .nil) .nil))) (.two .nil .nil))))))
noncomputable def code43 : Code := match Try.f43.body with | some c => c | none => .skip
theorem wp43 (s1 : ByteArray) (K : Option Addr → Nat → Nat → Int → World → Prop) (w : World) : WP Try.prog tab code43 ann43 (fnQ tab Try.f43.results.toList [(.one .slice), (.one (.int .i64))] K) (argE 0 [(.string s1)]) w = N43 s1 K w := by kernel_rfl
theorem calls43 (s1 : ByteArray) (K : Option Addr → Nat → Nat → Int → World → Prop) (w : World) (h : N43 s1 K w) : Calls Try.prog 43 #[(.string s1)] w fun en w' => ∃ (a32 : Option Addr), ∃ (l32 : Nat), ∃ (c32 : Nat), ∃ (x33 : Int), en = .returned (.tuple #[(.slice a32 l32 c32), (.int .i64 x33)]) ∧ K a32 l32 c32 x33 w' :=
  have e : (fun en w' => ExShs [(.one .slice), (.one (.int .i64))] fun vs => en = .returned (tupled vs) ∧ ap [(.one .slice), (.one (.int .i64))] K vs fun p => p w') = (fun (en : Ending) (w' : World) => ∃ (a32 : Option Addr), ∃ (l32 : Nat), ∃ (c32 : Nat), ∃ (x33 : Int), en = .returned (.tuple #[(.slice a32 l32 c32), (.int .i64 x33)]) ∧ K a32 l32 c32 x33 w') := by kernel_rfl
  e ▸ fn_sound tabOk mixed Try.func43 (by kernel_rfl : Try.f43.body = some code43) ann43 [(.string s1)] [(.one .slice), (.one (.int .i64))] K w (by kernel_rfl) ((wp43 s1 K w).symm ▸ h)
end Go.Proofs.Ytggfnakhmjkoeaa

namespace Go.Proofs.Ytggfnakhmjkoeaa
open Go Go.V Go.Proofs
open Go.RowKit (Below)
/-! manystrand/manystrandref06.Parse -/
def N44 (s1 : ByteArray) (K : Option Addr → Nat → Nat → Int → World → Prop) (w : World) : Prop :=
  BoolK ((s1 : ByteArray).toList == ((⟨#[45]⟩ : ByteArray) : ByteArray).toList)
  (K none 0 0 0 w)
  (∃ (J2 : Option Addr → Nat → Nat → World → Prop),
    (∀ (w3 : World) (a4 : Option Addr) (l4 : Nat) (c4 : Nat), J2 a4 l4 c4 w3 →
      Calls Try.prog 42 #[(.slice a4 l4 c4)] w3 fun e8 w7 =>
      ∃ (s5 : ByteArray), ∃ (x6 : Int), e8 = .returned (.tuple #[(.string s5), (.int .i64 x6)]) ∧
      (BoolK ((x6 : Int) != 0)
        (K none 0 0 3 w7)
        (BoolK (!((s5 : ByteArray).toList == (s1 : ByteArray).toList))
          (K none 0 0 3 w7)
          (K a4 l4 c4 0 w7)))) ∧
    (∃ (I9 : Option Addr → Nat → Nat → Int → World → Prop) (μ10 : Option Addr → Nat → Nat → Int → World → Nat),
      (I9 none 0 0 0 w ∧ True) ∧
      ∀ (w11 : World) (a12 : Option Addr) (l12 : Nat) (c12 : Nat) (x13 : Int), I9 a12 l12 c12 x13 w11 →
      Calls Try.prog 70 #[(.string s1), (.int .i64 x13)] w11 fun e17 w16 =>
      ∃ (x14 : Int), ∃ (x15 : Int), e17 = .returned (.tuple #[(.int .i64 x14), (.int .i64 x15)]) ∧
      (∃ (J18 : Int → Int → World → Prop),
        (∀ (w19 : World) (x20 : Int) (x21 : Int), J18 x20 x21 w19 →
          AllocK w19 (#[(.int .i64 x14), (.int .i64 x21)]) 55 fun b22 w23 =>
          ∃ (a24 : Option Addr), ∃ (l24 : Nat), ∃ (c24 : Nat), ∃ (w25 : World), Sem.run Try.prog (Builtin.append_ #[38, 38] 38 #[(.slice a12 l12 c12), (.slice (some b22) 1 1)]) w23 = .ok (.slice a24 l24 c24) w25 ∧
          (BoolK (decide ((x20 : Int) ≥ (s1.size : Nat)))
            (J2 a24 l24 c24 w25)
            (∃ (u26 : UInt8), (0 ≤ (x20 : Int) ∧ s1[(x20 : Int).toNat]? = some u26) ∧
              (BoolK ((u26.toNat : Int) != 32)
                (J2 a24 l24 c24 w25)
                (I9 a24 l24 c24 (IntKind.wrap .i64 (x20 + 1)) w25 ∧ μ10 a24 l24 c24 (IntKind.wrap .i64 (x20 + 1)) w25 < μ10 a12 l12 c12 x13 w11))))) ∧
        (∃ (J27 : Bool → World → Prop),
          (∀ (w28 : World) (p29 : Bool), J27 p29 w28 →
            BoolK p29
            (Calls Try.prog 70 #[(.string s1), (.int .i64 (IntKind.wrap .i64 (x15 + 1)))] w28 fun e33 w32 =>
              ∃ (x30 : Int), ∃ (x31 : Int), e33 = .returned (.tuple #[(.int .i64 x30), (.int .i64 x31)]) ∧
              (J18 x31 x30 w32))
            (J18 x15 x14 w28)) ∧
          (BoolK (decide ((x15 : Int) < (s1.size : Nat)))
            (∃ (u34 : UInt8), (0 ≤ (x15 : Int) ∧ s1[(x15 : Int).toNat]? = some u34) ∧
              (J27 ((u34.toNat : Int) == 35) w16))
            (J27 false w16))))))
def ann44 : Ann := (.two .nil (.two (.two .nil (.two (.two .nil .nil) .nil)) (.two .nil (.cut [(4, (.one .slice))] [0] (.two .nil (.one (.loop [(4, (.one .slice)), (5, (.one (.int .i64)))] [0] (.one (.two .nil (.two .nil (.cut [(7, (.one (.int .i64))), (8, (.one (.int .i64)))] [0, 4, 6] (.cut [(29, (.one .bool))] [0, 4, 6, 7, 8] .nil (.two .nil .nil)) (.two .nil (.two (.two .nil (.two .nil .nil)) .nil))))))))) (.two (.two .nil (.two .nil (.two (.two .nil .nil) .nil))) (.two .nil .nil))))))
noncomputable def code44 : Code := match Try.f44.body with | some c => c | none => .skip
theorem wp44 (s1 : ByteArray) (K : Option Addr → Nat → Nat → Int → World → Prop) (w : World) : WP Try.prog tab code44 ann44 (fnQ tab Try.f44.results.toList [(.one .slice), (.one (.int .i64))] K) (argE 0 [(.string s1)]) w = N44 s1 K w := by kernel_rfl
theorem calls44 (s1 : ByteArray) (K : Option Addr → Nat → Nat → Int → World → Prop) (w : World) (h : N44 s1 K w) : Calls Try.prog 44 #[(.string s1)] w fun en w' => ∃ (a35 : Option Addr), ∃ (l35 : Nat), ∃ (c35 : Nat), ∃ (x36 : Int), en = .returned (.tuple #[(.slice a35 l35 c35), (.int .i64 x36)]) ∧ K a35 l35 c35 x36 w' :=
  have e : (fun en w' => ExShs [(.one .slice), (.one (.int .i64))] fun vs => en = .returned (tupled vs) ∧ ap [(.one .slice), (.one (.int .i64))] K vs fun p => p w') = (fun (en : Ending) (w' : World) => ∃ (a35 : Option Addr), ∃ (l35 : Nat), ∃ (c35 : Nat), ∃ (x36 : Int), en = .returned (.tuple #[(.slice a35 l35 c35), (.int .i64 x36)]) ∧ K a35 l35 c35 x36 w') := by kernel_rfl
  e ▸ fn_sound tabOk mixed Try.func44 (by kernel_rfl : Try.f44.body = some code44) ann44 [(.string s1)] [(.one .slice), (.one (.int .i64))] K w (by kernel_rfl) ((wp44 s1 K w).symm ▸ h)
end Go.Proofs.Ytggfnakhmjkoeaa

namespace Go.Proofs.Ytggfnakhmjkoeaa
open Go Go.V Go.Proofs
open Go.RowKit (Below)

/-- what Parse answers -/
def ParseRes (s : ByteArray) (w' : World) (a : Option Addr) (l : Nat) (e : Int) : Prop :=
  (e = 0 ∧ ∃ d, VD d ∧ textB d = bl s ∧ Dom w' a l d ∧ ∀ d', VD d' → textB d' = bl s → d' = d) ∨ (e = 3 ∧ a = none ∧ l = 0 ∧ ∀ d, VD d → textB d ≠ bl s)
theorem isD_head {R : List UInt8} (r : Int × Int) (d : Dm) (h : R = (if r.1 < r.2 then 35 :: decN r.2.toNat else []) ++ tailT d) : ∀ u, R.head? = some u → ¬ isD u := by
  subst h
  intro u hu
  split at hu
  · simp at hu; subst hu; unfold isD; decide
  · cases d with
    | nil => simp [tailT] at hu
    | cons q qs => simp [tailT] at hu; subst hu; unfold isD; decide
theorem isD_tail (d : Dm) : ∀ u, (tailT d).head? = some u → ¬ isD u := by
  intro u hu
  cases d with
  | nil => simp [tailT] at hu
  | cons q qs => simp [tailT] at hu; subst hu; unfold isD; decide
theorem rng_app (r : Int × Int) (d : Dm) : rngT r ++ tailT d = decN r.1.toNat ++ ((if r.1 < r.2 then 35 :: decN r.2.toNat else []) ++ tailT d) := by rw [rngT, List.append_assoc]

/-- the text from place i on is that of what is left behind acc -/
def From (s : ByteArray) (acc : Dm) (i : Nat) : Prop := ∀ d, VD d → textB d = bl s → ∃ r rest, d = acc ++ r :: rest ∧ (bl s).drop i = rngT r ++ tailT rest
/-- the same behind a range -/
def Past (s : ByteArray) (acc : Dm) (i : Nat) : Prop := ∀ d, VD d → textB d = bl s → ∃ rest, d = acc ++ rest ∧ (bl s).drop i = tailT rest
theorem From.start {s : ByteArray} (h : bl s ≠ [45]) : From s [] 0 := fun d _ ht => by
  cases d with
  | nil => exact absurd ht.symm h
  | cons r rs => exact ⟨r, rs, rfl, by rw [← ht]; rfl⟩
theorem drop_get {s : ByteArray} {i : Nat} {u : UInt8} {R : List UInt8} (h : (bl s).drop i = u :: R) : i < s.size ∧ (bl s)[i]? = some u ∧ (bl s).drop (i + 1) = R := by
  have h1 : (bl s)[i]? = some u := by have := List.getElem?_drop (xs := bl s) (i := i) (j := 0); rw [h] at this; simpa using this.symm
  refine ⟨by rw [← bl_size]; exact (List.getElem?_eq_some_iff.1 h1).1, h1, ?_⟩
  rw [← List.drop_drop, h]; rfl
theorem drop_nil {s : ByteArray} {i : Nat} (h : (bl s).drop i = []) : s.size ≤ i := by
  rw [← bl_size]; exact List.drop_eq_nil_iff.1 h
theorem Past.done {s : ByteArray} {acc : Dm} {i : Nat} (h : Past s acc i) (hi : s.size ≤ i) : ∀ d, VD d → textB d = bl s → d = acc := fun d hv ht => by
  obtain ⟨rest, rfl, hd⟩ := h d hv ht
  rw [List.drop_eq_nil_of_le (by rw [bl_size]; exact hi)] at hd
  cases rest with
  | nil => simp
  | cons r rs => simp [tailT] at hd
theorem Past.next {s : ByteArray} {acc : Dm} {i : Nat} {u : UInt8} (h : Past s acc i) (hu : (bl s)[i]? = some u) : (∀ d, VD d → textB d = bl s → u = 32) ∧ From s acc (i + 1) := by
  have key : ∀ d, VD d → textB d = bl s → ∃ r rest, d = acc ++ r :: rest ∧ (bl s).drop i = 32 :: (rngT r ++ tailT rest) := fun d hv ht => by
    obtain ⟨rest, rfl, hd⟩ := h d hv ht
    cases rest with
    | nil =>
      have := drop_nil (show (bl s).drop i = [] from hd)
      rw [List.getElem?_eq_none (by rw [bl_size]; exact this)] at hu; cases hu
    | cons r rs => exact ⟨r, rs, rfl, by rw [hd]; simp [tailT]⟩
  constructor
  · intro d hv ht
    obtain ⟨r, rs, _, hd⟩ := key d hv ht
    have := (drop_get hd).2.1
    rw [hu] at this; simpa using this
  · intro d hv ht
    obtain ⟨r, rs, rfl, hd⟩ := key d hv ht
    exact ⟨r, rs, rfl, (drop_get hd).2.2⟩
theorem vd_mem {acc : Dm} {r : Int × Int} {rest : Dm} (h : VD (acc ++ r :: rest)) : 0 ≤ r.1 ∧ r.1 ≤ r.2 ∧ r.2 ≤ 1000 := h.all r (by simp)

/-- behind the low end: what is read of it -/
def Mid (s : ByteArray) (acc : Dm) (x : Int) (i : Nat) : Prop := ∀ d, VD d → textB d = bl s → ∃ r rest, d = acc ++ r :: rest ∧ x = r.1 ∧ (bl s).drop i = (if r.1 < r.2 then 35 :: decN r.2.toNat else []) ++ tailT rest
theorem Mid.no {s : ByteArray} {acc : Dm} {x : Int} {i : Nat} (h : Mid s acc x i) (hu : (bl s)[i]? ≠ some 35) : Past s (acc ++ [(x, x)]) i := fun d hv ht => by
  obtain ⟨r, rest, rfl, rfl, hd⟩ := h d hv ht
  have hr := vd_mem hv
  split at hd
  · exact absurd (drop_get hd).2.1 hu
  · refine ⟨rest, ?_, by simpa using hd⟩
    have : r = (r.1, r.1) := by ext <;> simp; omega
    rw [List.append_assoc, List.singleton_append, ← this]
theorem Mid.yes {s : ByteArray} {acc : Dm} {x : Int} {i : Nat} (h : Mid s acc x i) (hu : (bl s)[i]? = some 35) : ∀ d, VD d → textB d = bl s → ∃ r rest, d = acc ++ r :: rest ∧ x = r.1 ∧ (bl s).drop (i + 1) = decN r.2.toNat ++ tailT rest := fun d hv ht => by
  obtain ⟨r, rest, rfl, rfl, hd⟩ := h d hv ht
  refine ⟨r, rest, rfl, rfl, ?_⟩
  split at hd
  · exact (drop_get hd).2.2
  · exfalso
    cases rest with
    | nil =>
      have := drop_nil (show (bl s).drop i = [] by simpa [tailT] using hd)
      rw [List.getElem?_eq_none (by rw [bl_size]; exact this)] at hu; cases hu
    | cons q qs =>
      have := (drop_get (show (bl s).drop i = 32 :: (rngT q ++ tailT qs) by simpa [tailT] using hd)).2.1
      rw [hu] at this; simp at this

theorem NumP.low {s : ByteArray} {acc : Dm} {i : Nat} {x e : Int} (h : NumP s i x e) (hf : From s acc i) : (∀ d, VD d → textB d = bl s → 0 ≤ e) ∧ (0 ≤ e → ∃ j : Nat, e = j ∧ i < j ∧ j ≤ s.size ∧ Mid s acc x j) := by
  have key : ∀ d, VD d → textB d = bl s → ∃ r rest, d = acc ++ r :: rest ∧ x = r.1 ∧ e = (i + (decN r.1.toNat).length : Nat) ∧ (bl s).drop (i + (decN r.1.toNat).length) = (if r.1 < r.2 then 35 :: decN r.2.toNat else []) ++ tailT rest := fun d hv ht => by
    obtain ⟨r, rest, rfl, hd⟩ := hf d hv ht
    have hr := vd_mem hv
    rw [rng_app] at hd
    obtain ⟨h1, h2, h3⟩ := h.exact (v := r.1.toNat) (by omega) hd (isD_head r rest rfl)
    exact ⟨r, rest, rfl, by omega, h2, h3⟩
  refine ⟨fun d hv ht => by obtain ⟨_, _, _, _, he, _⟩ := key d hv ht; omega, fun he => ?_⟩
  obtain ⟨k, n, hd, hk, hst, hh⟩ := h
  split at hh
  · omega
  · refine ⟨i + k, hh.2, by omega, hd.le, fun d hv ht => ?_⟩
    obtain ⟨r, rest, hd1, hx, he1, hdr⟩ := key d hv ht
    have : i + k = i + (decN r.1.toNat).length := by omega
    rw [this]; exact ⟨r, rest, hd1, hx, hdr⟩
theorem NumP.high {s : ByteArray} {acc : Dm} {i : Nat} {x y e : Int} (h : NumP s i y e) (hf : ∀ d, VD d → textB d = bl s → ∃ r rest, d = acc ++ r :: rest ∧ x = r.1 ∧ (bl s).drop i = decN r.2.toNat ++ tailT rest) :
    (∀ d, VD d → textB d = bl s → 0 ≤ e) ∧ (0 ≤ e → ∃ j : Nat, e = j ∧ i < j ∧ j ≤ s.size ∧ Past s (acc ++ [(x, y)]) j) := by
  have key : ∀ d, VD d → textB d = bl s → ∃ r rest, d = acc ++ r :: rest ∧ x = r.1 ∧ y = r.2 ∧ e = (i + (decN r.2.toNat).length : Nat) ∧ (bl s).drop (i + (decN r.2.toNat).length) = tailT rest := fun d hv ht => by
    obtain ⟨r, rest, rfl, hx, hd⟩ := hf d hv ht
    have hr := vd_mem hv
    obtain ⟨h1, h2, h3⟩ := h.exact (v := r.2.toNat) (by omega) hd (isD_tail rest)
    exact ⟨r, rest, rfl, hx, by omega, h2, h3⟩
  refine ⟨fun d hv ht => by obtain ⟨_, _, _, _, _, he, _⟩ := key d hv ht; omega, fun he => ?_⟩
  obtain ⟨k, n, hd, hk, hst, hh⟩ := h
  split at hh
  · omega
  · refine ⟨i + k, hh.2, by omega, hd.le, fun d hv ht => ?_⟩
    obtain ⟨r, rest, rfl, rfl, rfl, he1, hdr⟩ := key d hv ht
    have : i + k = i + (decN r.2.toNat).length := by omega
    rw [this]; exact ⟨rest, by simp, hdr⟩

theorem c43 (w : World) (s : ByteArray) (hs : s.size ≤ 10000) :
    Calls Try.prog 43 #[.string s] w fun en w' => ∃ a l c e, en = .returned (.tuple #[.slice a l c, .int .i64 e]) ∧ (ParseRes s w' a l e ∧ Ext w w') := by
  refine calls43 _ _ w ?_
  refine BoolK.mk (fun t => ?_) (fun t => ?_)
  · rw [bl_eq] at t
    have t := of_decide_eq_true t
    refine ⟨.inl ⟨rfl, [], vd_nil, t.symm, Go.V.Rows.nil _ _ _ _, fun d' hv ht => ?_⟩, Ext.refl w⟩
    apply Classical.byContradiction; intro hne
    rw [textB, if_neg hne, t] at ht
    cases d' with
    | nil => exact hne rfl
    | cons r rs =>
      have h1 := decN_len r.1.toNat
      have h2 := decN_d (n := r.1.toNat) (by have := hv.all r (by simp); omega)
      cases hd : decN r.1.toNat with
      | nil => rw [hd] at h1; simp at h1
      | cons u us =>
        rw [txt, rngT, hd] at ht
        simp [bl_mk] at ht
        have := h2 u (by rw [hd]; simp)
        rw [ht.1] at this; unfold isD at this; revert this; decide
  rw [bl_eq] at t
  have hne : bl s ≠ [45] := of_decide_eq_false t
  refine ⟨fun a l c x w' => ∃ (acc : Dm) (i : Nat), x = i ∧ i ≤ s.size ∧ acc.length ≤ i ∧ OwnR w.heap.size 55 2 eP w' a l c acc ∧ From s acc i ∧ Ext w w', fun _ _ _ x _ => s.size + 1 - x.toNat,
    ⟨⟨[], 0, rfl, by omega, by simp, OwnR.nil _ _ _ _ _, From.start hne, Ext.refl w⟩, trivial⟩, ?_⟩
  rintro w4 a5 l5 c5 _ ⟨acc, i, rfl, hi, hai, ho, hf, hB⟩
  refine (c69 w4 s i hi (by omega)).mono ?_
  rintro en w9 ⟨x7, x8, rfl, hn, rfl⟩
  obtain ⟨hn1, hn2⟩ := hn.low hf
  have bad : (∀ d, VD d → textB d ≠ bl s) → ∀ w', Ext w w' → ParseRes s w' none 0 3 ∧ Ext w w' := fun h w' hw => ⟨.inr ⟨rfl, rfl, rfl, h⟩, hw⟩
  refine ⟨_, _, rfl, BoolK.mk (fun t => ?_) (fun t => ?_)⟩
  · exact bad (fun d hv ht => by have := hn1 d hv ht; simp at t; omega) _ hB
  have t : 0 ≤ x8 := by simpa using t
  obtain ⟨j, rfl, hij, hj, hm⟩ := hn2 t
  refine ⟨fun e h w' => w' = w9 ∧ ∃ j : Nat, e = j ∧ i < j ∧ j ≤ s.size ∧ Past s (acc ++ [(x7, h)]) j, ?_, ?_⟩
  · rintro w12 x13 x14 ⟨rfl, j, rfl, hij, hj, hp⟩
    refine OwnR.push (x7, x14) slt38 ho hB.size eP_len eP_one (by omega) rfl fun a' c' w18 ho' hg _ => ?_
    have hB18 : Ext w w18 := Below.trans hB (ho.below hB.size hg)
    refine BoolK.mk (fun t2 => ?_) (fun t2 => ?_)
    · have hj' : s.size ≤ j := by simp at t2; omega
      have hdone := hp.done hj'
      refine (c41 w18 a' _ c' _ ho'.dom (by simp; omega)).mono ?_
      rintro en w21 ⟨s19, x20, rfl, htr, hx21⟩
      have hB21 := hB18.trans hx21
      rw [TextRes] at htr
      refine ⟨_, _, rfl, BoolK.mk (fun t3 => ?_) (fun t3 => ?_)⟩
      · refine bad (fun d hv ht => ?_) _ hB21
        have := hdone d hv ht
        subst this
        rw [(validB_iff _).2 hv] at htr
        rw [htr.2] at t3; simp at t3
      · split at htr
        · rename_i hvb
          rw [bl_eq]
          refine BoolK.mk (fun t4 => ?_) (fun t4 => ?_)
          · simp at t4
            refine bad (fun d hv ht => ?_) _ hB21
            have := hdone d hv ht
            subst this
            exact t4 (htr.1.trans ht)
          · simp at t4
            exact ⟨.inl ⟨rfl, _, (validB_iff _).1 hvb, htr.1.symm.trans t4, (ho'.ext hx21).dom, hdone⟩, hB21⟩
        · rw [htr.2] at t3; simp at t3
    · have hj' : j < s.size := by simp at t2; omega
      obtain ⟨u, hu⟩ : ∃ u, (bl s)[j]? = some u := ⟨_, List.getElem?_eq_getElem (by rw [bl_size]; exact hj')⟩
      obtain ⟨h1, h2⟩ := hp.next hu
      refine ⟨u, ⟨by omega, by rw [Int.toNat_natCast, bl_get]; exact hu⟩, BoolK.mk (fun t3 => ?_) (fun t3 => ?_)⟩
      · exact bad (fun d hv ht => by have := h1 d hv ht; subst this; simp at t3) _ hB18
      · rw [wrap_succ (by omega)]
        exact ⟨⟨_, j + 1, rfl, by omega, by simp; omega, by simpa using ho', h2, hB18⟩, by simp; omega⟩
  · refine ⟨fun p w' => w' = w9 ∧ (p = true ↔ (bl s)[j]? = some 35), ?_, ?_⟩
    · rintro w25 p ⟨rfl, hp⟩
      refine BoolK.mk (fun t2 => ?_) (fun t2 => ?_)
      · have h35 := hp.1 t2
        have hlt : j < s.size := by rw [← bl_size]; exact (List.getElem?_eq_some_iff.1 h35).1
        rw [wrap_succ (by omega)]
        refine (c69 w25 s (j + 1) (by omega) (by omega)).mono ?_
        rintro en w29 ⟨x27, x28, rfl, hn', rfl⟩
        obtain ⟨g1, g2⟩ := hn'.high (hm.yes h35)
        refine ⟨_, _, rfl, BoolK.mk (fun t3 => ?_) (fun t3 => ?_)⟩
        · exact bad (fun d hv ht => by have := g1 d hv ht; simp at t3; omega) _ hB
        · obtain ⟨j', rfl, h3, h4, h5⟩ := g2 (by simpa using t3)
          exact ⟨rfl, j', rfl, by omega, h4, h5⟩
      · have : (bl s)[j]? ≠ some 35 := fun h => by rw [hp.2 h] at t2; cases t2
        exact ⟨rfl, j, rfl, hij, hj, hm.no this⟩
    · refine BoolK.mk (fun t2 => ?_) (fun t2 => ?_)
      · have hlt : j < s.size := by simp at t2; omega
        obtain ⟨u, hu⟩ : ∃ u, (bl s)[j]? = some u := ⟨_, List.getElem?_eq_getElem (by rw [bl_size]; exact hlt)⟩
        refine ⟨u, ⟨by omega, by rw [Int.toNat_natCast, bl_get]; exact hu⟩, rfl, ?_⟩
        rw [hu, beq_iff_eq, Option.some.injEq]
        constructor
        · intro h; apply UInt8.toNat_inj.1; simp; omega
        · rintro rfl; rfl
      · have hge : s.size ≤ j := by simp at t2; omega
        refine ⟨rfl, ?_⟩
        rw [List.getElem?_eq_none (by rw [bl_size]; exact hge)]; simp

theorem NumR.low {s : ByteArray} {acc : Dm} {i : Nat} {x e : Int} (h : NumR s i x e) (hf : From s acc i) : 0 ≤ x ∧ x ≤ 10009 ∧ ∃ j : Nat, e = j ∧ i ≤ j ∧ j ≤ s.size ∧ Mid s acc x j := by
  obtain ⟨k, n, hd, hst, hn, hx, he⟩ := id h
  refine ⟨by omega, by omega, i + k, he, by omega, hd.le, fun d hv ht => ?_⟩
  obtain ⟨r, rest, rfl, hdr⟩ := hf d hv ht
  have hr := vd_mem hv
  rw [rng_app] at hdr
  obtain ⟨h1, h2, h3⟩ := h.exact (v := r.1.toNat) (by omega) hdr (isD_head r rest rfl)
  have : i + k = i + (decN r.1.toNat).length := by omega
  rw [this]; exact ⟨r, rest, rfl, by omega, h3⟩
theorem NumR.high {s : ByteArray} {acc : Dm} {i : Nat} {x y e : Int} (h : NumR s i y e) (hf : ∀ d, VD d → textB d = bl s → ∃ r rest, d = acc ++ r :: rest ∧ x = r.1 ∧ (bl s).drop i = decN r.2.toNat ++ tailT rest) :
    0 ≤ y ∧ y ≤ 10009 ∧ ∃ j : Nat, e = j ∧ i ≤ j ∧ j ≤ s.size ∧ Past s (acc ++ [(x, y)]) j := by
  obtain ⟨k, n, hd, hst, hn, hx, he⟩ := id h
  refine ⟨by omega, by omega, i + k, he, by omega, hd.le, fun d hv ht => ?_⟩
  obtain ⟨r, rest, rfl, rfl, hdr⟩ := hf d hv ht
  have hr := vd_mem hv
  obtain ⟨h1, h2, h3⟩ := h.exact (v := r.2.toNat) (by omega) hdr (isD_tail rest)
  have : i + k = i + (decN r.2.toNat).length := by omega
  have hy : y = r.2 := by omega
  subst hy
  rw [this]; exact ⟨rest, by simp, h3⟩
theorem dash_only {s : ByteArray} (h : bl s = [45]) {d : Dm} (hv : VD d) (ht : textB d = bl s) : d = [] := by
  apply Classical.byContradiction; intro hne
  rw [textB, if_neg hne, h] at ht
  cases d with
  | nil => exact hne rfl
  | cons r rs =>
    have h1 := decN_len r.1.toNat
    have h2 := decN_d (n := r.1.toNat) (by have := hv.all r (by simp); omega)
    cases hd : decN r.1.toNat with
    | nil => rw [hd] at h1; simp at h1
    | cons u us =>
      rw [txt, rngT, hd] at ht
      simp at ht
      have := h2 u (by rw [hd]; simp)
      rw [ht.1] at this; unfold isD at this; revert this; decide

theorem c44 (w : World) (s : ByteArray) (hs : s.size ≤ 10000) :
    Calls Try.prog 44 #[.string s] w fun en w' => ∃ a l c e, en = .returned (.tuple #[.slice a l c, .int .i64 e]) ∧ (ParseRes s w' a l e ∧ Ext w w') := by
  refine calls44 _ _ w ?_
  refine BoolK.mk (fun t => ?_) (fun t => ?_)
  · rw [bl_eq] at t
    have t := of_decide_eq_true t
    exact ⟨.inl ⟨rfl, [], vd_nil, t.symm, Go.V.Rows.nil _ _ _ _, fun d' hv ht => dash_only t hv ht⟩, Ext.refl w⟩
  rw [bl_eq] at t
  have hne : bl s ≠ [45] := of_decide_eq_false t
  have bad : (∀ d, VD d → textB d ≠ bl s) → ∀ w', Ext w w' → ParseRes s w' none 0 3 ∧ Ext w w' := fun h w' hw => ⟨.inr ⟨rfl, rfl, rfl, h⟩, hw⟩
  refine ⟨fun a l c w' => ∃ acc : Dm, OwnR w.heap.size 55 2 eP w' a l c acc ∧ (∀ p ∈ acc, 0 ≤ p.2 ∧ p.2 ≤ 10009) ∧ acc.length ≤ s.size + 1 ∧ (∀ d, VD d → textB d = bl s → d = acc) ∧ Ext w w', ?_, ?_⟩
  · rintro w3 a4 l4 c4 ⟨acc, ho, hp, hl, hdone, hB⟩
    refine (c42 w3 a4 l4 c4 acc ho.dom ⟨by omega, fun p hm => by have := hp p hm; omega⟩).mono ?_
    rintro en w21 ⟨s19, x20, rfl, htr, hx21⟩
    have hB21 := hB.trans hx21
    rw [TextRes] at htr
    refine ⟨_, _, rfl, BoolK.mk (fun t3 => ?_) (fun t3 => ?_)⟩
    · refine bad (fun d hv ht => ?_) _ hB21
      have := hdone d hv ht
      subst this
      rw [(validB_iff _).2 hv] at htr
      rw [htr.2] at t3; simp at t3
    · split at htr
      · rename_i hvb
        rw [bl_eq]
        refine BoolK.mk (fun t4 => ?_) (fun t4 => ?_)
        · simp at t4
          refine bad (fun d hv ht => ?_) _ hB21
          have := hdone d hv ht
          subst this
          exact t4 (htr.1.trans ht)
        · simp at t4
          exact ⟨.inl ⟨rfl, _, (validB_iff _).1 hvb, htr.1.symm.trans t4, (ho.ext hx21).dom, hdone⟩, hB21⟩
      · rw [htr.2] at t3; simp at t3
  refine ⟨fun a l c x w' => ∃ (acc : Dm) (i : Nat), x = i ∧ i ≤ s.size ∧ acc.length ≤ i ∧ OwnR w.heap.size 55 2 eP w' a l c acc ∧ (∀ p ∈ acc, 0 ≤ p.2 ∧ p.2 ≤ 10009) ∧ From s acc i ∧ Ext w w', fun _ _ _ x _ => s.size + 1 - x.toNat,
    ⟨⟨[], 0, rfl, by omega, by simp, OwnR.nil _ _ _ _ _, by simp, From.start hne, Ext.refl w⟩, trivial⟩, ?_⟩
  rintro w4 a5 l5 c5 _ ⟨acc, i, rfl, hi, hai, ho, hsm, hf, hB⟩
  refine (c70 w4 s i hi (by omega)).mono ?_
  rintro en w9 ⟨x7, x8, rfl, hn, rfl⟩
  obtain ⟨n1, n2, j, rfl, hij, hj, hm⟩ := hn.low hf
  refine ⟨_, _, rfl, ?_⟩
  refine ⟨fun e h w' => w' = w9 ∧ 0 ≤ h ∧ h ≤ 10009 ∧ ∃ j : Nat, e = j ∧ i ≤ j ∧ j ≤ s.size ∧ Past s (acc ++ [(x7, h)]) j, ?_, ?_⟩
  · rintro w12 x13 x14 ⟨rfl, b1, b2, j, rfl, hij, hj, hp⟩
    refine OwnR.push (x7, x14) slt38 ho hB.size eP_len eP_one (by omega) rfl fun a' c' w18 ho' hg _ => ?_
    have hB18 : Ext w w18 := Below.trans hB (ho.below hB.size hg)
    have hsm' : ∀ p ∈ acc ++ [(x7, x14)], 0 ≤ p.2 ∧ p.2 ≤ 10009 := fun p hp => by
      rcases List.mem_append.1 hp with hp | hp
      · exact hsm p hp
      · simp at hp; subst hp; exact ⟨b1, b2⟩
    refine BoolK.mk (fun t2 => ?_) (fun t2 => ?_)
    · have hj' : s.size ≤ j := by simp at t2; omega
      exact ⟨_, ho', hsm', by simp; omega, hp.done hj', hB18⟩
    · have hj' : j < s.size := by simp at t2; omega
      obtain ⟨u, hu⟩ : ∃ u, (bl s)[j]? = some u := ⟨_, List.getElem?_eq_getElem (by rw [bl_size]; exact hj')⟩
      obtain ⟨h1, h2⟩ := hp.next hu
      refine ⟨u, ⟨by omega, by rw [Int.toNat_natCast, bl_get]; exact hu⟩, BoolK.mk (fun t3 => ?_) (fun t3 => ?_)⟩
      · exact ⟨_, ho', hsm', by simp; omega, fun d hv ht => by have := h1 d hv ht; subst this; simp at t3, hB18⟩
      · rw [wrap_succ (by omega)]
        exact ⟨⟨_, j + 1, rfl, by omega, by simp; omega, by simpa using ho', hsm', h2, hB18⟩, by simp; omega⟩
  · refine ⟨fun p w' => w' = w9 ∧ (p = true ↔ (bl s)[j]? = some 35), ?_, ?_⟩
    · rintro w25 p ⟨rfl, hp⟩
      refine BoolK.mk (fun t2 => ?_) (fun t2 => ?_)
      · have h35 := hp.1 t2
        have hlt : j < s.size := by rw [← bl_size]; exact (List.getElem?_eq_some_iff.1 h35).1
        rw [wrap_succ (by omega)]
        refine (c70 w25 s (j + 1) (by omega) (by omega)).mono ?_
        rintro en w29 ⟨x27, x28, rfl, hn', rfl⟩
        obtain ⟨g1, g2, j', rfl, h3, h4, h5⟩ := hn'.high (hm.yes h35)
        exact ⟨_, _, rfl, rfl, g1, g2, j', rfl, by omega, h4, h5⟩
      · have : (bl s)[j]? ≠ some 35 := fun h => by rw [hp.2 h] at t2; cases t2
        exact ⟨rfl, n1, n2, j, rfl, hij, hj, hm.no this⟩
    · refine BoolK.mk (fun t2 => ?_) (fun t2 => ?_)
      · have hlt : j < s.size := by simp at t2; omega
        obtain ⟨u, hu⟩ : ∃ u, (bl s)[j]? = some u := ⟨_, List.getElem?_eq_getElem (by rw [bl_size]; exact hlt)⟩
        refine ⟨u, ⟨by omega, by rw [Int.toNat_natCast, bl_get]; exact hu⟩, rfl, ?_⟩
        rw [hu, beq_iff_eq, Option.some.injEq]
        constructor
        · intro h; apply UInt8.toNat_inj.1; simp; omega
        · rintro rfl; rfl
      · have hge : s.size ≤ j := by simp at t2; omega
        refine ⟨rfl, ?_⟩
        rw [List.getElem?_eq_none (by rw [bl_size]; exact hge)]; simp
end Go.Proofs.Ytggfnakhmjkoeaa

namespace Go.Proofs.Ytggfnakhmjkoeaa
open Go Go.V Go.Proofs
open Go.RowKit (Below)
/-! manystrand/manystrandlaw06.DomainTexts -/
def N7 (a1 : Option Addr) (l1 : Nat) (c1 : Nat) (s2 : ByteArray) (K : Bool → World → Prop) (w : World) : Prop :=
  ∃ (J3 : Bool → World → Prop),
  (∀ (w4 : World) (p5 : Bool), J3 p5 w4 →
    BoolK p5
    (Calls Try.prog 12 #[] w4 fun e8 w7 =>
      ∃ (p6 : Bool), e8 = .returned (.bool p6) ∧
      (K p6 w7))
    (Calls Try.prog 41 #[(.slice a1 l1 c1)] w4 fun e12 w11 =>
      ∃ (s9 : ByteArray), ∃ (x10 : Int), e12 = .returned (.tuple #[(.string s9), (.int .i64 x10)]) ∧
      (Calls Try.prog 42 #[(.slice a1 l1 c1)] w11 fun e16 w15 =>
        ∃ (s13 : ByteArray), ∃ (x14 : Int), e16 = .returned (.tuple #[(.string s13), (.int .i64 x14)]) ∧
        (Calls Try.prog 43 #[(.string s2)] w15 fun e20 w19 =>
          ∃ (a17 : Option Addr), ∃ (l17 : Nat), ∃ (c17 : Nat), ∃ (x18 : Int), e20 = .returned (.tuple #[(.slice a17 l17 c17), (.int .i64 x18)]) ∧
          (Calls Try.prog 44 #[(.string s2)] w19 fun e24 w23 =>
            ∃ (a21 : Option Addr), ∃ (l21 : Nat), ∃ (c21 : Nat), ∃ (x22 : Int), e24 = .returned (.tuple #[(.slice a21 l21 c21), (.int .i64 x22)]) ∧
            (BoolK (!((s9 : ByteArray).toList == (s13 : ByteArray).toList))
              (K false w23)
              (BoolK ((x10 : Int) != x14)
                (K false w23)
                (BoolK ((x18 : Int) != x22)
                  (K false w23)
                  (Calls Try.prog 26 #[(.slice a17 l17 c17), (.slice a21 l21 c21)] w23 fun e27 w26 =>
                    ∃ (p25 : Bool), e27 = .returned (.bool p25) ∧
                    (BoolK (!p25)
                      (K false w26)
                      (∃ (J28 : World → Prop),
                        (∀ (w29 : World), J28 w29 →
                          Calls Try.prog 12 #[] w29 fun e32 w31 =>
                          ∃ (p30 : Bool), e32 = .returned (.bool p30) ∧
                          (K p30 w31)) ∧
                        (BoolK ((x10 : Int) == 0)
                          (Calls Try.prog 43 #[(.string s9)] w26 fun e36 w35 =>
                            ∃ (a33 : Option Addr), ∃ (l33 : Nat), ∃ (c33 : Nat), ∃ (x34 : Int), e36 = .returned (.tuple #[(.slice a33 l33 c33), (.int .i64 x34)]) ∧
                            (BoolK ((x34 : Int) != 0)
                              (K false w35)
                              (Calls Try.prog 26 #[(.slice a33 l33 c33), (.slice a1 l1 c1)] w35 fun e39 w38 =>
                                ∃ (p37 : Bool), e39 = .returned (.bool p37) ∧
                                (BoolK (!p37)
                                  (K false w38)
                                  (J28 w38)))))
                          (J28 w26))))))))))))) ∧
  (BoolK (decide (((l1 : Nat) : Int) > 600))
    (J3 true w)
    (J3 (decide (((s2.size : Nat) : Int) > 10000)) w))
def ann7 : Ann := (.two .nil (.two (.cut [(22, (.one .bool))] [0, 1] .nil (.two (.two .nil .nil) .nil)) (.two .nil (.two .nil (.two .nil (.two .nil (.two (.two .nil (.two (.two .nil .nil) .nil)) (.cut [] [] (.two .nil (.two (.two .nil (.two .nil (.two (.two .nil .nil) .nil))) .nil)) (.two .nil .nil)))))))))
noncomputable def code7 : Code := match Try.f7.body with | some c => c | none => .skip
theorem wp7 (a1 : Option Addr) (l1 : Nat) (c1 : Nat) (s2 : ByteArray) (K : Bool → World → Prop) (w : World) : WP Try.prog tab code7 ann7 (fnQ tab Try.f7.results.toList [(.one .bool)] K) (argE 0 [(.slice a1 l1 c1), (.string s2)]) w = N7 a1 l1 c1 s2 K w := by kernel_rfl
theorem calls7 (a1 : Option Addr) (l1 : Nat) (c1 : Nat) (s2 : ByteArray) (K : Bool → World → Prop) (w : World) (h : N7 a1 l1 c1 s2 K w) : Calls Try.prog 7 #[(.slice a1 l1 c1), (.string s2)] w fun en w' => ∃ (p40 : Bool), en = .returned (.bool p40) ∧ K p40 w' :=
  have e : (fun en w' => ExShs [(.one .bool)] fun vs => en = .returned (tupled vs) ∧ ap [(.one .bool)] K vs fun p => p w') = (fun (en : Ending) (w' : World) => ∃ (p40 : Bool), en = .returned (.bool p40) ∧ K p40 w') := by kernel_rfl
  e ▸ fn_sound tabOk mixed Try.func7 (by kernel_rfl : Try.f7.body = some code7) ann7 [(.slice a1 l1 c1), (.string s2)] [(.one .bool)] K w (by kernel_rfl) ((wp7 a1 l1 c1 s2 K w).symm ▸ h)
end Go.Proofs.Ytggfnakhmjkoeaa

namespace Go.Proofs.Ytggfnakhmjkoeaa
open Go Go.V Go.Proofs
open Go.RowKit (Below)

theorem ParseRes.doms {s : ByteArray} {w1 w2 : World} {a1 a2 : Option Addr} {l1 l2 : Nat} {e1 e2 : Int} (h : ParseRes s w1 a1 l1 e1) (k : ParseRes s w2 a2 l2 e2) : e1 = e2 ∧ ∃ d, VD d ∧ Dom w1 a1 l1 d ∧ Dom w2 a2 l2 d := by
  rcases h with ⟨rfl, d, v, ht, hd, hu⟩ | ⟨rfl, rfl, rfl, hn⟩
  · rcases k with ⟨rfl, d', v', ht', hd', _⟩ | ⟨rfl, _, _, hn⟩
    · have := hu d' v' ht'
      subst this; exact ⟨rfl, d', v, hd, hd'⟩
    · exact absurd ht (hn d v)
  · rcases k with ⟨rfl, d', v', ht', _⟩ | ⟨rfl, rfl, rfl, _⟩
    · exact absurd ht' (hn d' v')
    · exact ⟨rfl, [], vd_nil, Go.V.Rows.nil _ _ _ _, Go.V.Rows.nil _ _ _ _⟩

theorem c7 (w : World) (a1 : Option Addr) (l1 c1 : Nat) (d : Dm) (s : ByteArray) (hd : Dom w a1 l1 d) (hsm : Sm d) :
    Calls Try.prog 7 #[.slice a1 l1 c1, .string s] w fun en w' => en = .returned (.bool true) ∧ Ext w w' := by
  have el := hd.1
  have key : ∀ (K : Bool → World → Prop), (∀ w', Ext w w' → K true w') → N7 a1 l1 c1 s K w := fun K hK => by
    have awake : ∀ w0, Ext w w0 → Calls Try.prog 12 #[] w0 fun e w' => ∃ p, e = .returned (.bool p) ∧ K p w' := fun w0 h0 => by
      refine (c12 w0).mono ?_
      rintro en w9 ⟨p, rfl, rfl, hx⟩
      exact ⟨_, rfl, hK _ (h0.trans hx)⟩
    refine ⟨fun p w' => w' = w ∧ (p = false → s.size ≤ 10000 ∧ l1 ≤ 600), ?_, ?_⟩
    · rintro w4 p ⟨rfl, hp⟩
      refine BoolK.mk (fun _ => awake w4 (Ext.refl _)) (fun t => ?_)
      obtain ⟨hs, hl⟩ := hp t
      refine (c41 w4 a1 l1 c1 d hd (by omega)).mono ?_
      rintro en w11 ⟨s9, x10, rfl, t1, hx11⟩
      refine ⟨_, _, rfl, (c42 w11 a1 l1 c1 d (hd.ext RPair.mono hx11) hsm).mono ?_⟩
      rintro en w15 ⟨s13, x14, rfl, t2, hx15⟩
      have hB15 := hx11.trans hx15
      refine ⟨_, _, rfl, (c43 w15 s hs).mono ?_⟩
      rintro en w19 ⟨a17, l17, c17, x18, rfl, p1, hx19⟩
      have hB19 := hB15.trans hx19
      refine ⟨_, _, _, _, rfl, (c44 w19 s hs).mono ?_⟩
      rintro en w23 ⟨a21, l21, c21, x22, rfl, p2, hx23⟩
      have hB23 := hB19.trans hx23
      obtain ⟨rfl, m, vm, dm1, dm2⟩ := p1.doms p2
      have hst : bl s9 = bl s13 ∧ x10 = x14 := by
        rw [TextRes] at t1 t2
        split at t1
        · rename_i hv; rw [hv] at t2; simp at t2; exact ⟨t1.1.trans t2.1.symm, t1.2.trans t2.2.symm⟩
        · rename_i hv; rw [if_neg hv] at t2; exact ⟨t1.1.trans t2.1.symm, t1.2.trans t2.2.symm⟩
      obtain ⟨hst, rfl⟩ := hst
      refine ⟨_, _, _, _, rfl, ?_⟩
      rw [bl_eq, hst]
      refine BoolK.mk (fun t => by simp at t) (fun _ => BoolK.mk (fun t => by simp at t) (fun _ => BoolK.mk (fun t => by simp at t) (fun _ => ?_)))
      refine (c26 w23 _ _ _ _ _ _ m m (dm1.ext RPair.mono hx23) dm2 (by have := vm.len; omega)).mono ?_
      rintro en w26 ⟨q, rfl, rfl, hx26⟩
      have hB26 := hB23.trans hx26
      refine ⟨_, rfl, BoolK.mk (fun t => by simp at t) (fun _ => ?_)⟩
      refine ⟨fun w' => Ext w4 w', fun w29 h29 => awake w29 h29, BoolK.mk (fun t => ?_) (fun _ => hB26)⟩
      have h0 : x10 = 0 := by simpa using t
      have hv : validB d = true ∧ bl s9 = textB d := by
        rw [TextRes] at t1
        split at t1
        · rename_i hv; exact ⟨hv, t1.1⟩
        · omega
      have vd := (validB_iff d).1 hv.1
      have hs9 : s9.size ≤ 10000 := by
        have := txt_len d
        rw [← bl_size, hv.2, textB]; split
        · simp
        · omega
      refine (c43 w26 s9 hs9).mono ?_
      rintro en w35 ⟨a33, l33, c33, x34, rfl, p3, hx35⟩
      have hB35 := hB26.trans hx35
      rcases p3 with ⟨rfl, d2, v2, ht2, hd2, hu2⟩ | ⟨rfl, _, _, hn⟩
      · have := hu2 d vd hv.2.symm
        subst this
        refine ⟨_, _, _, _, rfl, BoolK.mk (fun t => by simp at t) (fun _ => ?_)⟩
        refine (c26 w35 _ _ _ _ _ _ d d hd2 (hd.ext RPair.mono hB35) (by have := vd.len; omega)).mono ?_
        rintro en w38 ⟨q, rfl, rfl, hx38⟩
        exact ⟨_, rfl, BoolK.mk (fun t => by simp at t) (fun _ => hB35.trans hx38)⟩
      · exact absurd hv.2.symm (hn d vd)
    · refine BoolK.mk (fun t => ⟨rfl, fun h => by cases h⟩) (fun t => ⟨rfl, fun h => ?_⟩)
      simp at t h; omega
  refine (calls7 _ _ _ _ (fun q w' => q = true ∧ Ext w w') w (key _ fun w' hx => ⟨rfl, hx⟩)).mono ?_
  rintro en w' ⟨q, rfl, rfl, hx⟩
  exact ⟨rfl, hx⟩
end Go.Proofs.Ytggfnakhmjkoeaa

namespace Go.Proofs.Ytggfnakhmjkoeaa
open Go Go.V Go.Proofs
open Go.RowKit (Below)
/-! manystrand/manystrandlaw06.light -/
def N11 (a1 : Option Addr) (l1 : Nat) (_c1 : Nat) (a2 : Option Addr) (l2 : Nat) (_c2 : Nat) (K : Bool → World → Prop) (w : World) : Prop :=
  BoolK (decide (((l1 : Nat) : Int) > 50))
  (K false w)
  (BoolK (decide (((l2 : Nat) : Int) > 110))
    (K false w)
    (∃ (I3 : Int → World → Prop) (μ4 : Int → World → Nat),
      (I3 0 w ∧ True) ∧
      ∀ (w5 : World) (x6 : Int), I3 x6 w5 →
      BoolK (decide ((x6 : Int) < (l1 : Nat)))
      ((0 ≤ (x6 : Int) ∧ (x6 : Int) < (l1 : Nat)) ∧
        AddrK a1 fun b7 =>
        ∃ (a8 : Option Addr) (l8 : Nat) (c8 : Nat), w5.cell? (b7.add ((x6 : Int).toNat * 1)) = some (.slice a8 l8 c8) ∧
        (BoolK (decide (((l8 : Nat) : Int) > 600))
          (K false w5)
          (I3 (IntKind.wrap .i64 (x6 + 1)) w5 ∧ μ4 (IntKind.wrap .i64 (x6 + 1)) w5 < μ4 x6 w5)))
      (∃ (I9 : Int → World → Prop) (μ10 : Int → World → Nat),
        (I9 0 w5 ∧ True) ∧
        ∀ (w11 : World) (x12 : Int), I9 x12 w11 →
        BoolK (decide ((x12 : Int) < (l2 : Nat)))
        ((0 ≤ (x12 : Int) ∧ (x12 : Int) < (l2 : Nat)) ∧
          AddrK a2 fun b13 =>
          ∃ (s14 : ByteArray), w11.cell? ((b13.add ((x12 : Int).toNat * 4)).add 0) = some (.string s14) ∧
          (∃ (a15 : Option Addr) (l15 : Nat) (c15 : Nat), w11.cell? ((b13.add ((x12 : Int).toNat * 4)).add 1) = some (.slice a15 l15 c15) ∧
            (∃ (a16 : Option Addr) (l16 : Nat) (c16 : Nat), w11.cell? ((b13.add ((x12 : Int).toNat * 4)).add 2) = some (.slice a16 l16 c16) ∧
              (∃ (x17 : Int), w11.cell? ((b13.add ((x12 : Int).toNat * 4)).add 3) = some (.int .i64 x17) ∧
                (AllocK w11 (#[.string ⟨#[]⟩, .slice none 0 0, .slice none 0 0, .int .i64 0]) 24 fun b18 w19 =>
                  SetK w19 (b18.add 0) (.string s14) fun w20 =>
                  SetK w20 (b18.add 1) (.slice a15 l15 c15) fun w21 =>
                  SetK w21 (b18.add 2) (.slice a16 l16 c16) fun w22 =>
                  SetK w22 (b18.add 3) (.int .i64 x17) fun w23 =>
                  ∃ (a24 : Option Addr) (l24 : Nat) (c24 : Nat), w23.cell? (b18.add 1) = some (.slice a24 l24 c24) ∧
                  (BoolK (decide (((l24 : Nat) : Int) > 50))
                    (K false w23)
                    (∃ (a25 : Option Addr) (l25 : Nat) (c25 : Nat), w23.cell? (b18.add 2) = some (.slice a25 l25 c25) ∧
                      (BoolK (decide (((l25 : Nat) : Int) > 50))
                        (K false w23)
                        (∃ (s26 : ByteArray), w23.cell? b18 = some (.string s26) ∧
                          (BoolK (decide (((s26.size : Nat) : Int) > 100))
                            (K false w23)
                            (I9 (IntKind.wrap .i64 (x12 + 1)) w23 ∧ μ10 (IntKind.wrap .i64 (x12 + 1)) w23 < μ10 x12 w11)))))))))))
        (K true w11))))
def ann11 : Ann := (.two .nil (.two (.two .nil (.two (.two .nil .nil) .nil)) (.two (.two .nil (.one (.loop [(19, (.one (.int .i64)))] [1, 17, 18] (.two .nil (.two (.two .nil .nil) (.two (.one (.two .nil (.two .nil (.two (.two .nil .nil) .nil)))) .nil)))))) (.two (.two .nil (.one (.loop [(29, (.one (.int .i64)))] [27, 28] (.two .nil (.two (.two .nil .nil) (.two (.one (.two .nil (.two .nil (.two (.two .nil .nil) .nil)))) .nil)))))) (.two .nil .nil)))))
noncomputable def code11 : Code := match Try.f11.body with | some c => c | none => .skip
theorem wp11 (a1 : Option Addr) (l1 : Nat) (c1 : Nat) (a2 : Option Addr) (l2 : Nat) (c2 : Nat) (K : Bool → World → Prop) (w : World) : WP Try.prog tab code11 ann11 (fnQ tab Try.f11.results.toList [(.one .bool)] K) (argE 0 [(.slice a1 l1 c1), (.slice a2 l2 c2)]) w = N11 a1 l1 c1 a2 l2 c2 K w := by kernel_rfl
theorem calls11 (a1 : Option Addr) (l1 : Nat) (c1 : Nat) (a2 : Option Addr) (l2 : Nat) (c2 : Nat) (K : Bool → World → Prop) (w : World) (h : N11 a1 l1 c1 a2 l2 c2 K w) : Calls Try.prog 11 #[(.slice a1 l1 c1), (.slice a2 l2 c2)] w fun en w' => ∃ (p27 : Bool), en = .returned (.bool p27) ∧ K p27 w' :=
  have e : (fun en w' => ExShs [(.one .bool)] fun vs => en = .returned (tupled vs) ∧ ap [(.one .bool)] K vs fun p => p w') = (fun (en : Ending) (w' : World) => ∃ (p27 : Bool), en = .returned (.bool p27) ∧ K p27 w') := by kernel_rfl
  e ▸ fn_sound tabOk mixed Try.func11 (by kernel_rfl : Try.f11.body = some code11) ann11 [(.slice a1 l1 c1), (.slice a2 l2 c2)] [(.one .bool)] K w (by kernel_rfl) ((wp11 a1 l1 c1 a2 l2 c2 K w).symm ▸ h)
end Go.Proofs.Ytggfnakhmjkoeaa

namespace Go.Proofs.Ytggfnakhmjkoeaa
open Go Go.V Go.Proofs
open Go.RowKit (Below)
/-! manystrand/manystrandlaw06.few -/
def N18 (a1 : Option Addr) (l1 : Nat) (c1 : Nat) (a2 : Option Addr) (l2 : Nat) (c2 : Nat) (K : Bool → World → Prop) (w : World) : Prop :=
  ∃ (I3 : Int → Int → World → Prop) (μ4 : Int → Int → World → Nat),
  (I3 0 0 w ∧ True) ∧
  ∀ (w5 : World) (x6 : Int) (x7 : Int), I3 x6 x7 w5 →
  BoolK (decide ((x7 : Int) < (l1 : Nat)))
  ((0 ≤ (x7 : Int) ∧ (x7 : Int) < (l1 : Nat)) ∧
    AddrK a1 fun b8 =>
    ∃ (a9 : Option Addr) (l9 : Nat) (c9 : Nat), w5.cell? (b8.add ((x7 : Int).toNat * 1)) = some (.slice a9 l9 c9) ∧
    (Calls Try.prog 40 #[(.slice a9 l9 c9)] w5 fun e12 w11 =>
      ∃ (x10 : Int), e12 = .returned (.int .i64 x10) ∧
      (I3 (IntKind.wrap .i64 (x6 + x10)) (IntKind.wrap .i64 (x7 + 1)) w11 ∧ μ4 (IntKind.wrap .i64 (x6 + x10)) (IntKind.wrap .i64 (x7 + 1)) w11 < μ4 x6 x7 w5)))
  (∃ (I13 : Int → Int → World → Prop) (μ14 : Int → Int → World → Nat),
    (I13 0 0 w5 ∧ True) ∧
    ∀ (w15 : World) (x16 : Int) (x17 : Int), I13 x16 x17 w15 →
    BoolK (decide ((x17 : Int) < (l2 : Nat)))
    ((0 ≤ (x17 : Int) ∧ (x17 : Int) < (l2 : Nat)) ∧
      AddrK a2 fun b18 =>
      ∃ (s19 : ByteArray), w15.cell? ((b18.add ((x17 : Int).toNat * 4)).add 0) = some (.string s19) ∧
      (∃ (a20 : Option Addr) (l20 : Nat) (c20 : Nat), w15.cell? ((b18.add ((x17 : Int).toNat * 4)).add 1) = some (.slice a20 l20 c20) ∧
        (∃ (a21 : Option Addr) (l21 : Nat) (c21 : Nat), w15.cell? ((b18.add ((x17 : Int).toNat * 4)).add 2) = some (.slice a21 l21 c21) ∧
          (∃ (x22 : Int), w15.cell? ((b18.add ((x17 : Int).toNat * 4)).add 3) = some (.int .i64 x22) ∧
            (AllocK w15 (#[.string ⟨#[]⟩, .slice none 0 0, .slice none 0 0, .int .i64 0]) 24 fun b23 w24 =>
              SetK w24 (b23.add 0) (.string s19) fun w25 =>
              SetK w25 (b23.add 1) (.slice a20 l20 c20) fun w26 =>
              SetK w26 (b23.add 2) (.slice a21 l21 c21) fun w27 =>
              SetK w27 (b23.add 3) (.int .i64 x22) fun w28 =>
              ∃ (a29 : Option Addr) (l29 : Nat) (c29 : Nat), w28.cell? (b23.add 1) = some (.slice a29 l29 c29) ∧
              (I13 (IntKind.wrap .i64 (x16 + (l29 : Nat))) (IntKind.wrap .i64 (x17 + 1)) w28 ∧ μ14 (IntKind.wrap .i64 (x16 + (l29 : Nat))) (IntKind.wrap .i64 (x17 + 1)) w28 < μ14 x16 x17 w15))))))
    (Calls Try.prog 11 #[(.slice a1 l1 c1), (.slice a2 l2 c2)] w15 fun e32 w31 =>
      ∃ (p30 : Bool), e32 = .returned (.bool p30) ∧
      (BoolK p30
        (BoolK (decide ((x6 : Int) ≤ 3100))
          (BoolK (decide ((x16 : Int) ≤ 40))
            (K (decide ((IntKind.wrap .i64 (x6 * x16) : Int) ≤ 16000)) w31)
            (K false w31))
          (K false w31))
        (K false w31))))
def ann18 : Ann := (.two .nil (.two .nil (.two (.two .nil (.one (.loop [(5, (.one (.int .i64))), (13, (.one (.int .i64)))] [0, 1, 6, 11, 12] (.two .nil (.two (.two .nil .nil) (.two (.one (.two .nil .nil)) .nil)))))) (.two (.two .nil (.one (.loop [(6, (.one (.int .i64))), (24, (.one (.int .i64)))] [0, 1, 5, 22, 23] (.two .nil (.two (.two .nil .nil) (.two (.one (.two .nil .nil)) .nil)))))) (.two .nil .nil)))))
noncomputable def code18 : Code := match Try.f18.body with | some c => c | none => .skip
theorem wp18 (a1 : Option Addr) (l1 : Nat) (c1 : Nat) (a2 : Option Addr) (l2 : Nat) (c2 : Nat) (K : Bool → World → Prop) (w : World) : WP Try.prog tab code18 ann18 (fnQ tab Try.f18.results.toList [(.one .bool)] K) (argE 0 [(.slice a1 l1 c1), (.slice a2 l2 c2)]) w = N18 a1 l1 c1 a2 l2 c2 K w := by kernel_rfl
theorem calls18 (a1 : Option Addr) (l1 : Nat) (c1 : Nat) (a2 : Option Addr) (l2 : Nat) (c2 : Nat) (K : Bool → World → Prop) (w : World) (h : N18 a1 l1 c1 a2 l2 c2 K w) : Calls Try.prog 18 #[(.slice a1 l1 c1), (.slice a2 l2 c2)] w fun en w' => ∃ (p33 : Bool), en = .returned (.bool p33) ∧ K p33 w' :=
  have e : (fun en w' => ExShs [(.one .bool)] fun vs => en = .returned (tupled vs) ∧ ap [(.one .bool)] K vs fun p => p w') = (fun (en : Ending) (w' : World) => ∃ (p33 : Bool), en = .returned (.bool p33) ∧ K p33 w') := by kernel_rfl
  e ▸ fn_sound tabOk mixed Try.func18 (by kernel_rfl : Try.f18.body = some code18) ann18 [(.slice a1 l1 c1), (.slice a2 l2 c2)] [(.one .bool)] K w (by kernel_rfl) ((wp18 a1 l1 c1 a2 l2 c2 K w).symm ▸ h)
end Go.Proofs.Ytggfnakhmjkoeaa

namespace Go.Proofs.Ytggfnakhmjkoeaa
open Go Go.V Go.Proofs
open Go.RowKit (Below)
section
variable {H : Type} {enc : TypeId × Value → H} {w : World}

theorem ints_of {a : Option Addr} {l : Nat} {d : List Int} (h : Go.V.Rows 1 RInt64 w a l d) : Ints w a l d := ⟨h.1, h.2.imp id fun ⟨b, o, ha, hx⟩ => ⟨b, o, ha, fun i x hi => (hx i x hi).1⟩⟩
theorem dom_of {a : Option Addr} {l : Nat} {d : Dm} (h : Go.V.Rows 2 RPair64 w a l d) : Dom w a l d := ⟨h.1, h.2.imp id fun ⟨b, o, ha, hx⟩ => ⟨b, o, ha, fun i x hi => (hx i x hi).1⟩⟩
theorem sm_of {a : Option Addr} {l : Nat} {d : Dm} (h : Go.V.Rows 2 RPair64 w a l d) (hl : l ≤ maxLen) : Sm d := ⟨by have := h.1; simp only [maxLen] at hl; omega, fun p hp => by
    obtain ⟨i, hi, rfl⟩ := List.mem_iff_getElem.1 hp
    obtain ⟨_, _, _, _, _, h2⟩ := h.get hi
    exact ⟨h2.2, h2.1⟩⟩
theorem doms_of {a : Option Addr} {l : Nat} {ds : List Dm} (h : Go.V.Rows 1 RDom w a l ds) : Doms w a l ds ∧ ∀ d ∈ ds, Sm d := by
  refine ⟨⟨h.1, h.2.imp id ?_⟩, ?_⟩
  · rintro ⟨b, o, ha, hx⟩
    refine ⟨b, o, ha, fun i x hi => ?_⟩
    obtain ⟨a, l, c, h0, h1, _⟩ := hx i x hi
    exact ⟨a, l, c, h0, dom_of h1⟩
  · intro d hd
    obtain ⟨i, hi, rfl⟩ := List.mem_iff_getElem.1 hd
    obtain ⟨_, _, _, a, l, c, _, h1, h2⟩ := h.get hi
    exact sm_of h1 h2

theorem list4 {cs : List Value} (h : cs.length = 4) : ∃ a b c d, cs = [a, b, c, d] := by
  match cs, h with
  | [a, b, c, d], _ => exact ⟨a, b, c, d, rfl⟩
/-- the cells of a propagator that comes in -/
theorem rd_prop {cs : List Value} (h : Rd enc Try.prog w 24 cs) : ∃ s a2 l2 c2 a3 l3 c3 n vs xs, cs = [.string s, .slice a2 l2 c2, .slice a3 l3 c3, .int .i64 n] ∧ PropAt w s a2 l2 a3 l3 n ⟨s, vs, xs, n⟩ ∧ I64 n := by
  obtain ⟨hl, hf⟩ := h.struct (fs := #[{ name := "Kind", type := 9, offset := 0, embedded := false, tag := "", pkgPath := "", byteOffset := 0 }, { name := "Vars", type := 22, offset := 1, embedded := false, tag := "", pkgPath := "", byteOffset := 16 },
    { name := "Coefs", type := 22, offset := 2, embedded := false, tag := "", pkgPath := "", byteOffset := 40 }, { name := "N", type := 3, offset := 3, embedded := false, tag := "", pkgPath := "", byteOffset := 64 }]) (by kernel_rfl)
  have c24 : Try.prog.cellsOf 24 = 4 := by kernel_rfl
  have c9 : Try.prog.cellsOf 9 = 1 := by kernel_rfl
  have c22 : Try.prog.cellsOf 22 = 1 := by kernel_rfl
  have c3 : Try.prog.cellsOf 3 = 1 := by kernel_rfl
  rw [c24] at hl
  have f0 : Rd enc Try.prog w 9 ((cs.drop 0).take (Try.prog.cellsOf 9)) := hf 0 { name := "Kind", type := 9, offset := 0, embedded := false, tag := "", pkgPath := "", byteOffset := 0 } rfl
  have f1 : Rd enc Try.prog w 22 ((cs.drop 1).take (Try.prog.cellsOf 22)) := hf 1 { name := "Vars", type := 22, offset := 1, embedded := false, tag := "", pkgPath := "", byteOffset := 16 } rfl
  have f2 : Rd enc Try.prog w 22 ((cs.drop 2).take (Try.prog.cellsOf 22)) := hf 2 { name := "Coefs", type := 22, offset := 2, embedded := false, tag := "", pkgPath := "", byteOffset := 40 } rfl
  have f3 : Rd enc Try.prog w 3 ((cs.drop 3).take (Try.prog.cellsOf 3)) := hf 3 { name := "N", type := 3, offset := 3, embedded := false, tag := "", pkgPath := "", byteOffset := 64 } rfl
  rw [c9] at f0
  rw [c22] at f1 f2
  rw [c3] at f3
  obtain ⟨v0, v1, v2, v3, rfl⟩ := list4 hl
  obtain ⟨s, e0, _⟩ := f0.string (by kernel_rfl)
  obtain ⟨a2, l2, c2, vs, e1, h1, m1⟩ := rd_ints f1
  obtain ⟨a3, l3, c3, xs, e2, h2, m2⟩ := rd_ints f2
  obtain ⟨n, e3, hw⟩ := f3.int (k := .i64) (by kernel_rfl)
  simp at e0 e1 e2 e3
  subst e0; subst e1; subst e2; subst e3
  have k1 := h1.1
  have k2 := h2.1
  simp only [maxLen] at m1 m2
  exact ⟨s, a2, l2, c2, a3, l3, c3, n, vs, xs, rfl, ⟨rfl, ints_of h1, ints_of h2, rfl, by simp only; omega, by simp only; omega⟩, i64_of hw⟩
theorem rd_prop1 (f : Nat → Option Value) (cs : List Value) (hl : cs.length = 4) (hf : ∀ j, j < 4 → f j = cs[j]?) (h : Rd enc Try.prog w 24 cs) : ∃ x, RProp w f x := by
  obtain ⟨s, a2, l2, c2, a3, l3, c3, n, vs, xs, rfl, hP, _⟩ := rd_prop h
  exact ⟨_, s, a2, l2, c2, a3, l3, c3, n, hf 0 (by omega), hf 1 (by omega), hf 2 (by omega), hf 3 (by omega), hP⟩
theorem rd_props {cs : List Value} (h : Rd enc Try.prog w 27 cs) : ∃ a l c xs, cs = [.slice a l c] ∧ Props w a l xs ∧ l ≤ maxLen :=
  h.slice (e := 24) (by kernel_rfl) (by kernel_rfl) (by omega) rd_prop1
end

/-- what light grants -/
def Light (ls : List Dm) (ps : List PropS) : Prop := ls.length ≤ 50 ∧ ps.length ≤ 110 ∧ (∀ d ∈ ls, d.length ≤ 600) ∧ ∀ p ∈ ps, p.vars.length ≤ 50 ∧ p.coefs.length ≤ 50

theorem c11 (w : World) (a1 : Option Addr) (l1 c1 : Nat) (a2 : Option Addr) (l2 c2 : Nat) (ls : List Dm) (ps : List PropS) (hd : Doms w a1 l1 ls) (hp : Props w a2 l2 ps) :
    Calls Try.prog 11 #[.slice a1 l1 c1, .slice a2 l2 c2] w fun en w' => ∃ p, en = .returned (.bool p) ∧ ((p = true → Light ls ps) ∧ Ext w w') := by
  refine calls11 _ _ _ _ _ _ _ w ?_
  have e1 := hd.1
  have e2 := hp.1
  refine BoolK.mk (fun _ => ⟨(fun h => by cases h), Ext.refl w⟩) (fun t => ?_)
  simp at t
  refine BoolK.mk (fun _ => ⟨(fun h => by cases h), Ext.refl w⟩) (fun t2 => ?_)
  simp at t2
  refine ⟨fun i w' => ∃ k : Nat, i = k ∧ k ≤ ls.length ∧ (ls.take k).all (fun d => decide (d.length ≤ 600)) = true ∧ Ext w w', fun i _ => ls.length - i.toNat, ⟨⟨0, rfl, by omega, rfl, Ext.refl w⟩, trivial⟩, ?_⟩
  rintro w4 i ⟨k, rfl, hk, hv, hB⟩
  refine BoolK.mk (fun hlt => ?_) (fun hge => ?_)
  · have hlt : k < ls.length := by simp at hlt; omega
    obtain ⟨b1, o1, a, l, c, rfl, h0, h1⟩ := domsAt hd w4 hB hlt
    have hl := h1.1
    refine ⟨by omega, ?_⟩
    simp only [AddrK, Int.toNat_natCast, add_mk, Nat.mul_one]
    refine ⟨_, _, _, h0, BoolK.mk (fun _ => ⟨(fun h => by cases h), hB⟩) (fun t => ?_)⟩
    simp at t
    rw [wrap_succ (by omega)]
    exact ⟨⟨k + 1, rfl, by omega, by rw [all_take hlt, hv, decide_eq_true (by omega)]; rfl, hB⟩, by simp; omega⟩
  have : k = ls.length := by simp at hge; omega
  subst this
  rw [List.take_length] at hv
  refine ⟨fun i w' => ∃ k : Nat, i = k ∧ k ≤ ps.length ∧ (ps.take k).all (fun p => decide (p.vars.length ≤ 50 ∧ p.coefs.length ≤ 50)) = true ∧ Ext w w', fun i _ => ps.length - i.toNat, ⟨⟨0, rfl, by omega, rfl, hB⟩, trivial⟩, ?_⟩
  clear hB hk hge
  rintro w11 i ⟨k, rfl, hk, hv2, hB⟩
  refine BoolK.mk (fun hlt => ?_) (fun hge => ?_)
  · have hlt : k < ps.length := by simp at hlt; omega
    obtain ⟨b1, o1, s, a2', l2', c2', a3, l3, c3, x4, rfl, h0, h1, h2, h3, hP⟩ := propAt hp w11 hB hlt
    have hl2 := hP.vars.1
    have hl3 := hP.coefs.1
    refine ⟨by omega, ?_⟩
    simp only [AddrK, Int.toNat_natCast, add_mk, Nat.add_zero]
    refine ⟨_, h0, _, _, _, h1, _, _, _, h2, _, h3, ?_⟩
    refine local4 (fun b w20 hb hblk hx => ?_)
    obtain ⟨g0, g1, g2, g3⟩ := cell4 hblk
    have hx' := hB.trans hx
    simp only [add_mk, Nat.zero_add]
    refine ⟨_, _, _, g1, BoolK.mk (fun _ => ⟨(fun h => by cases h), hx'⟩) (fun t => ?_)⟩
    simp at t
    refine ⟨_, _, _, g2, BoolK.mk (fun _ => ⟨(fun h => by cases h), hx'⟩) (fun t2 => ?_)⟩
    simp at t2
    refine ⟨_, g0, BoolK.mk (fun _ => ⟨(fun h => by cases h), hx'⟩) (fun t3 => ?_)⟩
    rw [wrap_succ (by omega)]
    exact ⟨⟨k + 1, rfl, by omega, by rw [all_take hlt, hv2, decide_eq_true (by omega)]; rfl, hx'⟩, by simp; omega⟩
  have : k = ps.length := by simp at hge; omega
  subst this
  rw [List.take_length] at hv2
  refine ⟨fun _ => ⟨by omega, by omega, fun d hd => by simpa using List.all_eq_true.1 hv d hd, fun p hp => by simpa using List.all_eq_true.1 hv2 p hp⟩, hB⟩

theorem c18 (w : World) (a1 : Option Addr) (l1 c1 : Nat) (a2 : Option Addr) (l2 c2 : Nat) (ls : List Dm) (ps : List PropS) (hd : Doms w a1 l1 ls) (hs : ∀ d ∈ ls, Sm d) (hl1 : l1 ≤ maxLen) (hp : Props w a2 l2 ps) (hl2 : l2 ≤ maxLen) :
    Calls Try.prog 18 #[.slice a1 l1 c1, .slice a2 l2 c2] w fun en w' => ∃ p, en = .returned (.bool p) ∧ ((p = true → Light ls ps) ∧ Ext w w') := by
  refine calls18 _ _ _ _ _ _ _ w ?_
  have e1 := hd.1
  have e2 := hp.1
  simp only [maxLen] at hl1 hl2
  refine ⟨fun _ i w' => ∃ k : Nat, i = k ∧ k ≤ ls.length ∧ Ext w w', fun _ i _ => ls.length - i.toNat, ⟨⟨0, rfl, by omega, Ext.refl w⟩, trivial⟩, ?_⟩
  rintro w5 x6 _ ⟨k, rfl, hk, hB⟩
  refine BoolK.mk (fun hlt => ?_) (fun hge => ?_)
  · have hlt : k < ls.length := by simp at hlt; omega
    obtain ⟨b1, o1, a, l, c, rfl, h0, h1⟩ := domsAt hd w5 hB hlt
    refine ⟨by omega, ?_⟩
    simp only [AddrK, Int.toNat_natCast, add_mk, Nat.mul_one]
    refine ⟨_, _, _, h0, (c40 w5 a l c _ h1 (hs _ (List.getElem_mem _))).mono ?_⟩
    rintro en w11 ⟨n, rfl, rfl, hx⟩
    refine ⟨_, rfl, ?_⟩
    rw [wrap_succ (n := k) (by omega)]
    exact ⟨⟨k + 1, rfl, by omega, hB.trans hx⟩, by simp; omega⟩
  refine ⟨fun _ i w' => ∃ k : Nat, i = k ∧ k ≤ ps.length ∧ Ext w w', fun _ i _ => ps.length - i.toNat, ⟨⟨0, rfl, by omega, hB⟩, trivial⟩, ?_⟩
  clear hB hk hge
  rintro w15 x16 _ ⟨k, rfl, hk, hB⟩
  refine BoolK.mk (fun hlt => ?_) (fun hge => ?_)
  · have hlt : k < ps.length := by simp at hlt; omega
    obtain ⟨b1, o1, s, a2', l2', c2', a3, l3, c3, x4, rfl, h0, h1, h2, h3, hP⟩ := propAt hp w15 hB hlt
    refine ⟨by omega, ?_⟩
    simp only [AddrK, Int.toNat_natCast, add_mk, Nat.add_zero]
    refine ⟨_, h0, _, _, _, h1, _, _, _, h2, _, h3, ?_⟩
    refine local4 (fun b w20 hb hblk hx => ?_)
    obtain ⟨g0, g1, g2, g3⟩ := cell4 hblk
    simp only [add_mk, Nat.zero_add]
    refine ⟨_, _, _, g1, ?_⟩
    rw [wrap_succ (n := k) (by omega)]
    exact ⟨⟨k + 1, rfl, by omega, hB.trans hx⟩, by simp; omega⟩
  refine (c11 w15 a1 l1 c1 a2 l2 c2 ls ps (hd.ext (RSl.mono RPair.mono) hB) (hp.ext RProp.mono hB)).mono ?_
  rintro en w31 ⟨p, rfl, hL, hx⟩
  have hB' := hB.trans hx
  refine ⟨_, rfl, BoolK.mk (fun t => ?_) (fun _ => ⟨(fun h => by cases h), hB'⟩)⟩
  refine BoolK.mk (fun _ => ?_) (fun _ => ⟨(fun h => by cases h), hB'⟩)
  refine BoolK.mk (fun _ => ?_) (fun _ => ⟨(fun h => by cases h), hB'⟩)
  exact ⟨fun _ => hL t, hB'⟩
end Go.Proofs.Ytggfnakhmjkoeaa
