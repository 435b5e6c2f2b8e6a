/- A part of the proof: plain forms of functions and laws about them. -/
import Derived.Test.YtnmldggopnbclaaGreatDoorGrliBe
import Derived.Lib.Bytealg
import Derived.Lib.Join
namespace Go.Proofs.YtnmldggopnbclaaGreatDoor
open Go Go.V Go.Proofs Go.V.Gr
open Go.RowKit (Below)
theorem reach_lt : reachBytes ≤ 140737488355328 := by decide
theorem listv2 {cs : List Value} (h : cs.length = 2) : ∃ v0 v1, cs = [v0, v1] := by
 match cs, h with
 | [v0, v1], _ => exact ⟨v0, v1, rfl⟩
theorem listv5 {cs : List Value} (h : cs.length = 5) : ∃ v0 v1 v2 v3 v4, cs = [v0, v1, v2, v3, v4] := by
 match cs, h with
 | [v0, v1, v2, v3, v4], _ => exact ⟨v0, v1, v2, v3, v4, rfl⟩
def RNdZ (w : World) (f : Cells) (x : Nd) : Prop := RNd w f x ∧ x.fs.length ≤ 1000000000000000 ∧ x.ks.length ≤ 1000000000000000
section
variable {H : Type} {enc : TypeId × Value → H} {w : World}
theorem rd_ft (f : Nat → Option Value) (cs : List Value) (hl : cs.length = 2) (hf : ∀ j, j < 2 → f j = cs[j]?) (h : Rz enc Tryz.prog w 41 cs) : ∃ x, RFt w f x := by
 obtain ⟨v0, v1, rfl⟩ := listv2 hl
 have f0 : Rz enc Tryz.prog w 3 [v0] := Rz.fld Tryz.underlying41 h 0 rfl (n := 1) (by kernel_rfl)
 have f1 : Rz enc Tryz.prog w 9 [v1] := Rz.fld Tryz.underlying41 h 1 rfl (n := 1) (by kernel_rfl)
 obtain ⟨n, e1, _⟩ := f0.int Tryz.underlying3
 obtain ⟨s, e0, hs⟩ := f1.string Tryz.underlying9
 cases e0; cases e1
 exact ⟨(n, s), hf 0 (by omega), hf 1 (by omega), hs⟩
theorem rd_int (f : Nat → Option Value) (cs : List Value) (hl : cs.length = 1) (hf : ∀ j, j < 1 → f j = cs[j]?) (h : Rz enc Tryz.prog w 3 cs) : ∃ x, RInt w f x := by
 obtain ⟨n, rfl, _⟩ := h.int Tryz.underlying3
 exact ⟨n, hf 0 (by omega)⟩
theorem rd_nd (f : Nat → Option Value) (cs : List Value) (hl : cs.length = 5) (hf : ∀ j, j < 5 → f j = cs[j]?) (h : Rz enc Tryz.prog w 39 cs) : ∃ x, RNdZ w f x := by
 obtain ⟨v0, v1, v2, v3, v4, rfl⟩ := listv5 hl
 have f0 : Rz enc Tryz.prog w 9 [v0] := Rz.fld Tryz.underlying39 h 0 rfl (n := 1) (by kernel_rfl)
 have f1 : Rz enc Tryz.prog w 3 [v1] := Rz.fld Tryz.underlying39 h 1 rfl (n := 1) (by kernel_rfl)
 have f2 : Rz enc Tryz.prog w 9 [v2] := Rz.fld Tryz.underlying39 h 2 rfl (n := 1) (by kernel_rfl)
 have f3 : Rz enc Tryz.prog w 36 [v3] := Rz.fld Tryz.underlying39 h 3 rfl (n := 1) (by kernel_rfl)
 have f4 : Rz enc Tryz.prog w 37 [v4] := Rz.fld Tryz.underlying39 h 4 rfl (n := 1) (by kernel_rfl)
 obtain ⟨s0, e0, m0⟩ := f0.string Tryz.underlying9
 obtain ⟨n1, e1, m1⟩ := f1.int Tryz.underlying3
 obtain ⟨s2, e2, m2⟩ := f2.string Tryz.underlying9
 obtain ⟨a3, l3, c3, x3, e3, r3, k3, z3, _⟩ := f3.slice (e := 41) Tryz.underlying36 (sz := 2) (by kernel_rfl) (by omega) rd_ft
 obtain ⟨a4, l4, c4, x4, e4, r4, k4, z4, _⟩ := f4.slice (e := 3) Tryz.underlying37 (sz := 1) (by kernel_rfl) (by omega) rd_int
 cases e0; cases e1; cases e2; cases e3; cases e4
 have b3 : Tryz.prog.bytesOf 41 = 24 := by kernel_rfl
 have b4 : Tryz.prog.bytesOf 3 = 8 := by kernel_rfl
 rw [b3] at z3; rw [b4] at z4
 have hr := reach_lt
 have e3 := r3.1; have e4 := r4.1
 exact ⟨⟨s0, n1, s2, x3, x4⟩, ⟨hf 0 (by omega), hf 1 (by omega), hf 2 (by omega), m0, m2, ⟨a3, l3, c3, hf 3 (by omega), r3, k3⟩, ⟨a4, l4, c4, hf 4 (by omega), r4, k4⟩, m1⟩, by show x3.length ≤ _; omega, by show x4.length ≤ _; omega⟩
theorem rd_graph {cs : List Value} (h : Rz enc Tryz.prog w 25 cs) : ∃ r a l c xs, cs = [.int .i64 r, .slice a l c] ∧ RNds w a l xs ∧ Szd xs := by
 have hl : cs.length = 2 := by rw [Rz.len Tryz.underlying25 h]; kernel_rfl
 obtain ⟨v0, v1, rfl⟩ := listv2 hl
 have f0 : Rz enc Tryz.prog w 3 [v0] := Rz.fld Tryz.underlying25 h 0 rfl (n := 1) (by kernel_rfl)
 have f1 : Rz enc Tryz.prog w 23 [v1] := Rz.fld Tryz.underlying25 h 1 rfl (n := 1) (by kernel_rfl)
 obtain ⟨n0, e0, _⟩ := f0.int Tryz.underlying3
 obtain ⟨a, l, c, xs, e1, r1, k1, _⟩ := f1.slice (e := 39) Tryz.underlying23 (sz := 5) (by kernel_rfl) (by omega) rd_nd
 cases e0; cases e1
 refine ⟨n0, a, l, c, xs, rfl, ⟨⟨r1.1, r1.2.imp id fun ⟨b, o, e, h⟩ => ⟨b, o, e, fun i x hx => (h i x hx).1⟩⟩, k1⟩, fun x hx => ?_⟩
 rcases r1.2 with rfl | ⟨b, o, e, h⟩
 ·cases hx
 ·obtain ⟨i, hi⟩ := List.getElem?_of_mem hx
  exact (h i x hi).2
end
end Go.Proofs.YtnmldggopnbclaaGreatDoor

namespace Go.Proofs.YtnmldggopnbclaaGreatDoor
open Go Go.V Go.Proofs Go.V.Gr
open Go.RowKit (Below)
theorem nds_none (w : World) : RNds w none 0 [] := ⟨Go.V.Rows.nil _ _ _ _, by simp [maxLen]⟩
def RGr (w : World) (f : Cells) (g : Int × List Nd) : Prop := f 0 = some (.int .i64 g.1) ∧ ∃ a l c, f 1 = some (.slice a l c) ∧ RNds w a l g.2
theorem RGr.mono : Mono RGr := fun _ _ _ _ _ e h ⟨h0, a, l, c, h1, h2⟩ => ⟨h _ _ h0, a, l, c, h _ _ h1, ⟨h2.1.ext RNd.mono e, h2.2⟩⟩
def RGrZ (w : World) (f : Cells) (g : Int × List Nd) : Prop := RGr w f g ∧ Szd g.2
theorem grAt {w w' : World} {a : Option Addr} {l : Nat} {gs : List (Int × List Nd)} (h : RL 2 RGr w a l gs) (k : Ext w w') {i : Nat} (hi : i < gs.length) :
  ∃ b, a = some b ∧ w'.cell? ((b.add (((i : Nat) : Int).toNat * 2)).add 0) = some (.int .i64 gs[i].1) ∧ ∃ a l c, w'.cell? ((b.add (((i : Nat) : Int).toNat * 2)).add 1) = some (.slice a l c) ∧ RNds w' a l gs[i].2 := by
 obtain ⟨b, o, ha, h0, a2, l2, c2, h1, h2⟩ := (h.1.ext RGr.mono k).get hi
 exact ⟨_, ha, by rw [Int.toNat_natCast, add_mk, add_mk]; exact h0, a2, l2, c2, by rw [Int.toNat_natCast, add_mk, add_mk]; exact h1, h2⟩
section
variable {H : Type} {enc : TypeId × Value → H} {w : World}
theorem rd_gr (f : Nat → Option Value) (cs : List Value) (hl : cs.length = 2) (hf : ∀ j, j < 2 → f j = cs[j]?) (h : Rz enc Tryz.prog w 25 cs) : ∃ x, RGrZ w f x := by
 obtain ⟨r, a, l, c, xs, rfl, g, z⟩ := rd_graph h
 exact ⟨(r, xs), ⟨hf 0 (by omega), a, l, c, hf 1 (by omega), g⟩, z⟩
theorem rd_graphs {cs : List Value} (h : Rz enc Tryz.prog w 22 cs) : ∃ a l c gs, cs = [.slice a l c] ∧ RL 2 RGr w a l gs ∧ ∀ g ∈ gs, Szd g.2 := by
 obtain ⟨a, l, c, xs, e1, r1, k1, _, hc⟩ := h.slice (e := 25) Tryz.underlying22 (sz := 2) (by kernel_rfl) (by omega) rd_gr
 refine ⟨a, l, c, xs, e1, ⟨⟨r1.1, r1.2.imp id fun ⟨b, o, e, h⟩ => ⟨b, o, e, fun i x hx => (h i x hx).1⟩⟩, k1⟩, fun x hx => ?_⟩
 rcases r1.2 with rfl | ⟨b, o, e, h⟩
 ·cases hx
 ·obtain ⟨i, hi⟩ := List.getElem?_of_mem hx
  exact (h i x hi).2
end
theorem rowInt {ρ : Type} {own : OwnM ρ} {r : ρ} {w : World} {e : TypeId} {s : SL} {xs : List Int} (h : RowR own r e 1 eI w s xs) {i : Nat} (hi : i < xs.length) :
  ∃ b, s.1 = some b ∧ w.cell? (b.add (((i : Nat) : Int).toNat * 1)) = some (.int .i64 xs[i]) := by
 obtain ⟨g, l, c, e1, _, _, hc⟩ := h.at_ eI_len hi
 subst e1
 refine ⟨_, rfl, ?_⟩
 have := hc 0 (by omega)
 rw [Nat.mul_one, Nat.add_zero] at this
 rw [Int.toNat_natCast, Nat.mul_one, add_mk, Nat.zero_add, this]; rfl
/-! ### Lists of graphs that are made -/
def eG (s : SL) : List Value := [.int .i64 0, .slice s.1 s.2.1 s.2.2]
theorem eG_len (s : SL) : (eG s).length = 2 := rfl
theorem eG_one (s : SL) (u : Value) (h : u ∈ eG s) : u.oneCell' = true := by simp [eG] at h; rcases h with rfl | rfl <;> rfl
theorem sltG : SlT Tryz.prog 22 25 2 32 := slOk.ok (by kernel_rfl : slOk Tryz.prog 22 25 2 32 = true)
structure GL (w0 w : World) (own : OwnM Nat) (s : SL) (SS : List SL) (gs : List (List Nd)) : Prop where
 loc : Mine own w0 w
 out : RowR own 0 25 2 eG w s SS
 len : SS.length = gs.length
 at_ : ∀ (j : Nat) (r : SL) (g : List Nd), SS[j]? = some r → gs[j]? = some g → NU own w r g
section
variable {w0 w w' : World} {own own' : OwnM Nat} {s s' : SL} {SS : List SL} {gs : List (List Nd)}
theorem GL.start (w : World) : GL w w (fun _ => none) (none, 0, 0) [] [] := ⟨Mine.refl w, RowR.nil _ _ _ _ _ _, rfl, fun j r g e => by simp at e⟩
theorem GL.ext (h : GL w0 w own s SS gs) (x : Ext w w') : GL w0 w' own s SS gs := ⟨h.loc.ext x, h.out.ext x, h.len, fun j r g e1 e2 => (h.at_ j r g e1 e2).fr (Fr.of_ext own x)⟩
theorem GL.more {r : SL} {g : List Nd} (h : GL w0 w own s SS gs) (hg : NU own w r g) (u : Upd own own' 0 w w') (ho : RowR own' 0 25 2 eG w' s' (SS ++ [r])) : GL w0 w' own' s' (SS ++ [r]) (gs ++ [g]) := by
 refine ⟨h.loc.upd u, ho, by simp [h.len], fun j r' g' e1 e2 => ?_⟩
 rcases Nat.lt_or_ge j gs.length with hj | hj
 ·rw [List.getElem?_append_left (by rw [h.len]; exact hj)] at e1
  rw [List.getElem?_append_left hj] at e2
  exact (h.at_ j r' g' e1 e2).fr u.fr
 ·have : j = gs.length := by have := (List.getElem?_eq_some_iff.1 e2).1; simp at this; omega
  subst this
  rw [← h.len, List.getElem?_concat_length] at e1
  rw [List.getElem?_concat_length] at e2
  cases e1; cases e2
  exact hg.fr u.fr
theorem GL.rows (h : GL w0 w own s SS gs) (hm : gs.length ≤ maxLen) : RL 2 RGr w s.1 s.2.1 (gs.map fun g => ((0 : Int), g)) := by
 refine ⟨h.out.1.rows eG_len RGr (by simp [h.len]) fun f j r y hr hy hf => ?_, by rw [h.out.len, h.len]; exact hm⟩
 rw [List.getElem?_map] at hy
 obtain ⟨g, hg, rfl⟩ := Option.map_eq_some_iff.1 hy
 exact ⟨by rw [hf 0 (by omega)]; rfl, r.1, r.2.1, r.2.2, by rw [hf 1 (by omega)]; rfl, (h.at_ j r g hr hg).now⟩
end
end Go.Proofs.YtnmldggopnbclaaGreatDoor

namespace Go.V.Gr
open Go Go.V
/-! ### Comparisons -/
def fz : List Int → Int
 | [] => 0
 | a :: l => if a = 0 then fz l else a
def Tri (a b e : Int) : Prop := (a = 0 → b = 0 → e = 0) ∧ (a ≤ 0 → b ≤ 0 → (a < 0 ∨ b < 0) → e < 0)
open Go.Lib (compareBytes)
section
variable {cH : Nd → Nd → Int}
structure HdC (V : Nd → Prop) (cH : Nd → Nd → Int) : Prop where
 neg : ∀ x y, V x → V y → cH y x = - cH x y
 tri : ∀ x y z, V x → V y → V z → Tri (cH x y) (cH y z) (cH x z)
 zero : ∀ x y, V x → V y → (cH x y = 0 ↔ x.hd = y.hd)
structure VL (V : Nd → Prop) (l : List Nd) : Prop where
 v : ∀ x ∈ l, V x
 c : Closed l
theorem VL.nd {V : Nd → Prop} {l : List Nd} (h : VL V l) {i : Nat} (hi : i < l.length) : V (Gr.nd l i) := by
 rw [nd_get hi]; exact h.v _ (List.getElem_mem _)
variable {V : Nd → Prop} (H : HdC V cH)
include H
end
theorem EqK.less {l l' : List Nd} : ∀ {d i j : Nat}, EqK l l' (d + 1) i j → EqK l l' d i j
 | 0, _, _, h => h.1
 | _ + 1, _, _, h => ⟨h.1, fun m hm => (h.2 m hm).less⟩
theorem EqK.le {l l' : List Nd} {d e i j : Nat} (h : EqK l l' d i j) (hd : e ≤ d) : EqK l l' e i j := by
  induction d with
  | zero => have : e = 0 := by omega
            subst this; exact h
  | succ d ih =>
    by_cases he : e = d + 1
    · subst he; exact h
    · exact ih h.less (by omega)
section
variable {cH : Nd → Nd → Int} {V : Nd → Prop} (H : HdC V cH)
include H
end
end Go.V.Gr

namespace Go.Proofs.YtnmldggopnbclaaGreatDoor
open Go Go.V Go.Proofs Go.V.Gr
open Go.RowKit (Below)
open Go.Lib (compareBytes)
def VN1 (x : Nd) : Prop := ∃ n, NdOk x n
theorem VN1.kd {x : Nd} (h : VN1 x) : x.kd = kInt ∨ x.kd = kVar ∨ x.kd = kRef ∨ x.kd = kRec := by
 obtain ⟨n, h⟩ := h
 rcases h with h | h | h | h
 ·exact .inl h.1
 ·exact .inr (.inl h.1)
 ·exact .inr (.inr (.inl h.1))
 ·exact .inr (.inr (.inr h.1))
theorem VN1.fs {x : Nd} (h : VN1 x) : ∀ f ∈ x.fs, featD f = true := by
 obtain ⟨n, h⟩ := h
 intro f hf
 rcases h with h | h | h | h
 ·rw [h.2.2.1] at hf; cases hf
 ·rw [h.2.2.1] at hf; cases hf
 ·rw [h.2.2.1] at hf; cases hf
 ·obtain ⟨i, hi⟩ := List.getElem?_of_mem hf
  exact (h.2.2.2.2.1 i f hi).1
theorem VN1.ks {x : Nd} (h : VN1 x) : x.ks.length = x.fs.length := by obtain ⟨n, h⟩ := h; exact h.lens
theorem GrOk.vl {root : Int} {xs : List Nd} {most : Nat} (h : GrOk root xs most) : VL VN1 xs := ⟨fun x hx => ⟨_, h.nds x hx⟩, h.closed⟩
end Go.Proofs.YtnmldggopnbclaaGreatDoor

namespace Go.Proofs.YtnmldggopnbclaaGreatDoor
open Go Go.V Go.Proofs Go.V.Gr
def lowC (c : UInt8) : Bool := decide (97 ≤ c.toNat ∧ c.toNat ≤ 122)
def upC (c : UInt8) : Bool := decide (65 ≤ c.toNat ∧ c.toNat ≤ 90)
def digC (c : UInt8) : Bool := decide (48 ≤ c.toNat ∧ c.toNat ≤ 57)
def wordC (c : UInt8) : Bool := upC c || lowC c || digC c || decide (c.toNat = 95)
def keysL : List ByteArray := [⟨#[97, 110, 100, 116, 104, 101, 110]⟩, ⟨#[97, 116]⟩, ⟨#[98, 121]⟩, ⟨#[99, 97, 115, 101]⟩, ⟨#[99, 97, 116, 99, 104]⟩, ⟨#[99, 104, 111, 105, 99, 101]⟩, ⟨#[100, 105, 118]⟩, ⟨#[100, 111]⟩, ⟨#[101, 97, 99, 104]⟩, ⟨#[101, 108, 115, 101]⟩, ⟨#[101, 110, 100]⟩, ⟨#[102, 111, 114]⟩, ⟨#[102, 117, 110]⟩, ⟨#[105, 102]⟩, ⟨#[105, 110]⟩, ⟨#[108, 97, 122, 121]⟩, ⟨#[108, 111, 99, 97, 108]⟩, ⟨#[108, 111, 99, 107]⟩, ⟨#[109, 111, 100]⟩, ⟨#[111, 114, 101, 108, 115, 101]⟩, ⟨#[112, 114, 111, 99]⟩, ⟨#[114, 97, 105, 115, 101]⟩, ⟨#[115, 107, 105, 112]⟩, ⟨#[116, 104, 101, 110]⟩, ⟨#[116, 104, 114, 101, 97, 100]⟩, ⟨#[116, 114, 121]⟩, ⟨#[111, 102]⟩]
def keyB (s : ByteArray) : Bool := keysL.any fun t => decide (s = t)
def plainA (s : ByteArray) : Bool := decide (0 < s.size) && decide (s.size ≤ 60) && (match (bl s) with | c :: _ => lowC c | [] => false) && (bl s).all wordC && !keyB s
def quoteA (s : ByteArray) : List UInt8 := if plainA s then bl s else inQ 39 (bl s)
def numT (n : Int) : List UInt8 := if n < 0 then 126 :: Lib.itoa (-n) else Lib.itoa n
structure TS where
 cnt : Nat
 nm : List Nat
def TS.nam (st : TS) (i : Nat) : Nat := st.nm[i]?.getD 0
def leafT (x : Nd) : Option (List UInt8) :=
 if x.kd = kInt then some (numT x.n) else if x.kd = kVar then some (95 :: Lib.itoa x.n) else if x.kd = kRef then some (60 :: (bl x.tx ++ 32 :: (Lib.itoa x.n ++ [62]))) else if x.fs = [] then some (quoteA x.tx) else none
structure LG (l : List Nd) : Prop where
 ok : GrOk 0 l 1000
 up : ∀ q, 0 < q → q < l.length → ∃ p, p < q ∧ q ∈ kids l p
def un (l : List Nd) (st : TS) : Nat := (List.range l.length).countP fun j => decide (1 < plc l j) && decide (st.nam j = 0)
structure TOk (l : List Nd) (st : TS) : Prop where
 len : st.nm.length = l.length
 cnt : st.cnt + un l st ≤ l.length
 le : ∀ j, st.nam j ≤ st.cnt
section
variable {l : List Nd}
theorem cons_ks {x : Nd} {n : Int} (h : NdOk x n) (hc : isConsD x = true) : x.ks.length = 2 := by
 simp only [isConsD, Bool.and_eq_true, decide_eq_true_eq] at hc
 have := h.lens
 rw [this, hc.2]; rfl
structure Grw (l : List Nd) (st st' : TS) : Prop where
 ok : TOk l st'
 un : un l st' ≤ un l st
 keep : ∀ j, st.nam j ≠ 0 → st'.nam j = st.nam j
end
end Go.Proofs.YtnmldggopnbclaaGreatDoor

namespace Go.Proofs.YtnmldggopnbclaaGreatDoor
open Go Go.V Go.Proofs Go.V.Gr
inductive Desc (l : List Nd) : Nat → Nat → Prop
 | refl (i : Nat) : Desc l i i
 | step {i j k : Nat} : Desc l i j → k ∈ kids l j → j < l.length → k < l.length → plc l k ≤ 1 → Desc l i k
section
variable {l : List Nd}
open Classical in
noncomputable def subs (l : List Nd) (i : Nat) : List Nat := (List.range l.length).filter fun j => decide (Desc l i j)
noncomputable def cst (l : List Nd) (i : Nat) : Nat := if (leafT (Gr.nd l i)).isSome ∨ 1 < plc l i then 200 else 2000000 * (subs l i).length
end
end Go.Proofs.YtnmldggopnbclaaGreatDoor
