/- A part of the proof: plain forms of functions and laws about them. -/
import Derived.Test.YtnmldggopnbclaaGreatDoorGrliAy
namespace Go.V
open Go.RowKit (Below)
def eY (x : UInt8) : List Value := [.int .u8 x.toNat]
theorem eY_len (x : UInt8) : (eY x).length = 1 := rfl
theorem eY_one (x : UInt8) (u : Value) (h : u ∈ eY x) : u.oneCell' = true := by simp [eY] at h; subst h; rfl
theorem flat_one {α : Type} (f : α → Value) (xs : List α) : (xs.flatMap fun x => [f x]) = xs.map f := by
 induction xs with
 | nil => rfl
 | cons x xs ih => rw [List.flatMap_cons, ih]; rfl
theorem OwnR.pushN {α : Type} {P : Program} {t ty e te : TypeId} {sz bytes base n : Nat} {enc : α → List Value} {w : World} {a : Option Addr} {l c : Nat} {xs : List α} (ys : List α) (H : SlT P t e sz bytes) (h : OwnR base e sz enc w a l c xs)
  (hb : base ≤ w.heap.size) (he : ∀ x, (enc x).length = sz) (h1 : ∀ x u, u ∈ enc x → u.oneCell' = true) (hlen : (xs.length + ys.length) * bytes ≤ 140737488355328) {cs : Array Value} (hcs : cs = (ys.flatMap enc).toArray) (hn : n = ys.length)
  {F : Option Addr → Nat → Nat → World → Prop}
  (k : ∀ a' c' w', OwnR base e sz enc w' a' (xs.length + ys.length) c' (xs ++ ys) → w.grownBy w' (Value.slice a l c).ownBlock →
   ((Value.slice a' (xs.length + ys.length) c').ownBlock = (Value.slice a l c).ownBlock ∨ ∃ g, (Value.slice a' (xs.length + ys.length) c').ownBlock = some g ∧ w.heap.size ≤ g) → F a' (xs.length + ys.length) c' w') :
  AllocK w cs te fun b w1 => ∃ a' l' c' w2, Sem.run P (Builtin.append_ #[t, t] ty #[.slice a l c, .slice (some b) n n]) w1 = .ok (.slice a' l' c') w2 ∧ F a' l' c' w2 := by
 subst hn
 refine AllocK.mk fun b w1 hb1 hblk hx => ?_
 have ho := h.ext hx
 obtain ⟨a', c', w', hr, h2, h3, h4⟩ := OwnR.appendN (ty := ty) H (xs := xs) (ys := ys) ho (Nat.le_trans hb hx.size) he h1 ⟨b, 0, none⟩ ys.length (fun j u hu => by
  rw [add_mk, Nat.zero_add, hblk.cell, hcs]; simpa using hu) hlen
 refine ⟨a', _, c', w', hr, k a' c' w' h2 ⟨h3.os.trans hx.os, h3.tape.trans hx.tape, h3.output.trans hx.output, Nat.le_trans hx.size h3.size, fun i hi hne => (h3.block i (Nat.lt_of_lt_of_le hi hx.size) hne).trans (hx.block i hi)⟩ ?_⟩
 rcases h4 with h4 | h4
 ·exact .inl h4
 ·exact .inr ⟨_, h4, hx.size⟩
theorem push_all (xs : List UInt8) : ∀ (r : ByteArray), ((xs.map fun x => ((x.toNat : Nat) : Int)).foldl (fun r n => r.push (UInt8.ofNat n.toNat)) r) = r ++ ⟨xs.toArray⟩ := by
 induction xs with
 | nil => intro r; simp; apply ByteArray.ext; simp
 | cons x xs ih =>
  intro r
  simp only [List.map_cons, List.foldl_cons, ih]
  apply bl_inj
  simp [bl]
theorem OwnR.str {P : Program} {src dst e : TypeId} {w : World} {base : Nat} {a : Option Addr} {l c : Nat} {xs : List UInt8} (hs : P.underlying src = some (.slice e)) (he : P.underlying e = some (.int .u8)) (hd : P.underlying dst = some .string)
  (h : OwnR base e 1 eY w a l c xs) (hne : xs ≠ []) : Sem.run P (convert src dst (.slice a l c)) w = .ok (.string ⟨xs.toArray⟩) w := by
 obtain ⟨rfl, hf, h⟩ := h
 rcases h with ⟨h0, hn⟩ | ⟨g, cap, cur, hv, hbg, hg, h3, h4, h5, h6⟩
 ·exact absurd (List.length_eq_zero_iff.1 hn) hne
 simp only [Value.slice.injEq] at hv
 obtain ⟨rfl, _, rfl⟩ := hv
 rw [run_convert_bytes_string w src dst e _ _ _ hs he hd]
 have hfl : xs.flatMap eY = xs.map fun x => Value.int .u8 ((x.toNat : Nat) : Int) := flat_one _ xs
 have hg : Blk w g cur e := hg
 have := run_loadCells_list (P := P) (w := w) ⟨g, 0, none⟩ (xs.map fun x => Value.int .u8 ((x.toNat : Nat) : Int)) (fun j v hj => by
  have hlt : j < xs.length := by have := (List.getElem?_eq_some_iff.1 hj).1; simpa using this
  rw [add_mk, Nat.zero_add, hg.cell]
  rw [hfl] at h6
  rw [← h6, List.getElem?_take_of_lt (by omega), Array.getElem?_toList] at hj
  exact hj)
 rw [List.length_map] at this
 have e2 := run_bytesToString w ⟨g, 0, none⟩ xs.length c (xs.map fun x => ((x.toNat : Nat) : Int)) (by
  rw [List.map_map]; exact this)
 rw [e2, push_all]
 congr 2
end Go.V
