/- A part of the proof: plain forms of functions and laws about them. -/
import Derived.Test.YtnmldggopnbclaaGreatDoorGrliAt
import Derived.Deep.AppendSrc
namespace Go.V
open Go.RowKit (Below)
def putL (cur : Array Value) : Nat → List Value → Array Value
 | _, [] => cur
 | o, v :: r => putL (cur.setIfInBounds o v) (o + 1) r
theorem putL_size (cur : Array Value) : ∀ (vs : List Value) (o : Nat), (putL cur o vs).size = cur.size
 | [], _ => rfl
 | v :: r, o => by rw [putL, putL_size]; simp
theorem putL_get : ∀ (vs : List Value) (cur : Array Value) (o : Nat), o + vs.length ≤ cur.size → ∀ j, (putL cur o vs)[j]? = if o ≤ j ∧ j < o + vs.length then vs[j - o]? else cur[j]?
 | [], cur, o, _, j => by rw [putL]; rw [if_neg (by simp)]
 | v :: r, cur, o, h, j => by
  simp only [List.length_cons] at h
  rw [putL, putL_get r _ _ (by simp; omega), Array.getElem?_setIfInBounds]
  by_cases h1 : o + 1 ≤ j ∧ j < o + 1 + r.length
  ·rw [if_pos h1, if_pos (by simp; omega), show j - o = (j - (o + 1)) + 1 by omega, List.getElem?_cons_succ]
  ·rw [if_neg h1]
   by_cases h2 : o = j
   ·subst h2; rw [if_pos rfl, if_pos (by omega), if_pos (by simp), Nat.sub_self]; rfl
   ·rw [if_neg h2, if_neg (by simp; omega)]
theorem setCells_blk {g t : Nat} : ∀ (vs : List Value) (w : World) (cur : Array Value) (o : Nat), Blk w g cur t → Blk (w.setCells g o vs) g (putL cur o vs) t ∧ But g w (w.setCells g o vs)
 | [], w, cur, o, h => ⟨h, ⟨rfl, rfl, rfl, rfl, fun _ _ => rfl⟩⟩
 | v :: r, w, cur, o, h => by
  have h1 : Blk (w.setCell ⟨g, o, none⟩ v) g (cur.setIfInBounds o v) t := heap_setCell_same w g o cur t v h
  have b1 : But g w (w.setCell ⟨g, o, none⟩ v) := ⟨rfl, rfl, rfl, by simp, fun k hk => heap_setCell_other w ⟨g, o, none⟩ k v hk⟩
  obtain ⟨h2, b2⟩ := setCells_blk r _ _ (o + 1) h1
  exact ⟨h2, b1.trans b2⟩
def zOk (P : Program) (e : TypeId) : Bool := match P.info? e with | some i => (match i.zero with | some z => z.cells.all (·.oneCell') | none => false) | none => false
theorem flat_append {α : Type} {enc : α → List Value} {sz : Nat} (he : ∀ x, (enc x).length = sz) (xs : List α) (k : Nat) : (xs.flatMap enc).drop (k * sz) = (xs.drop k).flatMap enc ∧ (xs.flatMap enc).take (k * sz) = (xs.take k).flatMap enc := by
 induction xs generalizing k with
 | nil => simp
 | cons y ys ih =>
  cases k with
  | zero => simp
  | succ k =>
   rw [List.flatMap_cons, Nat.succ_mul, Nat.add_comm, List.drop_succ_cons, List.take_succ_cons, List.flatMap_cons, ← (ih k).1, ← (ih k).2, ← he y]
   exact ⟨by rw [List.drop_append, List.drop_of_length_le (by omega)]; simp, by rw [List.take_append, List.take_of_length_le (by omega)]; simp⟩
theorem OwnR.delAt {α : Type} {P : Program} {t ty ty2 e : TypeId} {sz bytes base : Nat} {enc : α → List Value} {w : World} {g l c : Nat} {xs : List α} (H : SlT P t e sz bytes) (hzo : zOk P e = true) (h : OwnR base e sz enc w (some ⟨g, 0, none⟩) l c xs)
  (he : ∀ x, (enc x).length = sz) (h1 : ∀ x u, u ∈ enc x → u.oneCell' = true) {k : Nat} (hk : k < xs.length) :
  l = xs.length ∧ l ≤ c ∧ ∃ w8 w9, Sem.run P (Builtin.append_ #[t, t] ty #[.slice (some ⟨g, 0, none⟩) k c, .slice (if c = k + 1 then some ⟨g, 0, none⟩ else some ⟨g, (k + 1) * sz, none⟩) (l - (k + 1)) (c - (k + 1))]) w = .ok (.slice (some ⟨g, 0, none⟩) (l - 1) c) w8 ∧
   Sem.run P (Builtin.clear_ #[t] ty2 #[.slice (some ⟨g, (l - 1) * sz, none⟩) 1 (c - (l - 1))]) w8 = .ok (.tuple #[]) w9 ∧ OwnR base e sz enc w9 (some ⟨g, 0, none⟩) (l - 1) c (xs.eraseIdx k) ∧ But g w w9 := by
 obtain ⟨hl, hf, ho⟩ := h
 rcases ho with ⟨h0, _⟩ | ⟨g', cap, cur, hv, hbg, hg, h3, h4, h5, h6⟩
 ·cases h0
 simp only [Value.slice.injEq, Option.some.injEq, Addr.mk.injEq, and_true] at hv
 obtain ⟨rfl, hlx, rfl⟩ := hv
 subst hl
 obtain ⟨i, z, hi, hz, hsz, hby, hzs⟩ := H.info
 have hB : Blk w g cur e := hg
 refine ⟨rfl, h3, ?_⟩
 have hcs : xs.length * sz ≤ cur.size := by rw [h5]; exact Nat.mul_le_mul_right _ h3
 have hcur : ∀ j, j < xs.length * sz → cur[j]? = (xs.flatMap enc)[j]? := fun j hj => by
  rw [← h6, List.getElem?_take_of_lt hj, Array.getElem?_toList]
 let news := (xs.drop (k + 1)).flatMap enc
 have hnl : news.length = (xs.length - (k + 1)) * sz := by rw [show news = (xs.drop (k + 1)).flatMap enc from rfl, enc_len he, List.length_drop]
 have hsplit : k * sz + news.length = (xs.length - 1) * sz := by rw [hnl, ← Nat.add_mul]; congr 1; omega
 have hle1 : (xs.length - 1) * sz + sz = xs.length * sz := by rw [← Nat.succ_mul]; congr 1; omega
 have hk1 : (k + 1) * sz + news.length = xs.length * sz := by rw [hnl, ← Nat.add_mul]; congr 1; omega
 have hsrc : Src P i.size t (.slice (if c = k + 1 then some ⟨g, 0, none⟩ else some ⟨g, (k + 1) * sz, none⟩) (xs.length - (k + 1)) (c - (k + 1))) (xs.length - (k + 1)) news w := by
  by_cases hck : c = k + 1
  ·rw [if_pos hck]
   have : news = [] := List.eq_nil_of_length_eq_zero (by rw [hnl, show xs.length - (k + 1) = 0 by omega, Nat.zero_mul])
   exact Src.ofSlice w H.under _ _ _ _ (by rw [hsz]; exact hnl) (fun j u hj => by rw [this] at hj; simp at hj) (fun u hu => by rw [this] at hu; cases hu)
  ·rw [if_neg hck]
   refine Src.ofSlice w H.under _ _ _ _ (by rw [hsz]; exact hnl) (fun j u hj => ?_) (fun u hu => ?_)
   ·have hjl : j < news.length := (List.getElem?_eq_some_iff.1 hj).1
    rw [add_mk, hB.cell, hcur _ (by omega)]
    rw [show news = (xs.flatMap enc).drop ((k + 1) * sz) from ((flat_append he xs (k + 1)).1).symm, List.getElem?_drop] at hj
    exact hj
   ·obtain ⟨x, _, hx⟩ := List.mem_flatMap.1 hu
    exact h1 x u hx
 have hrun := run_append_room_src (P := P) w t t ty e i H.under hi g 0 k c _ _ news hsrc (by omega) (fun j hj => by
   rw [Nat.zero_add, hsz, hB.cell, Array.getElem?_eq_getElem (by omega)]; rfl) (fun j hj => hB.frozen _)
 rw [show k + (xs.length - (k + 1)) = xs.length - 1 by omega, Nat.zero_add, hsz] at hrun
 obtain ⟨hB8, hb8⟩ := setCells_blk (g := g) (t := e) news w cur (k * sz) hB
 have hzc : (Builtin.zeroCells z.cells 1).toList = z.cells.toList := by
  apply List.ext_getElem
  ·simp [Builtin.zeroCells]
  ·intro n p1 p2
   simp only [Builtin.zeroCells, Array.toList_map, List.getElem_map, Array.toList_range, List.getElem_range]
   simp only [Array.length_toList] at p2
   rw [Nat.mod_eq_of_lt p2]; simp [getElem!_pos, p2]
 have hone : ∀ v ∈ z.cells.toList, v.oneCell' = true := by
  unfold zOk at hzo; rw [hi] at hzo; simp only [hz] at hzo
  intro v hv
  rw [Array.all_eq_true'] at hzo
  exact hzo v (Array.mem_toList_iff.1 hv)
 have hzv : ∀ w, (zeroValue e).run P w = .ok z w := fun w => by simp [zeroValue, typeInfo, hi, hz]
 have hst := run_storeCells_cells (P := P) g ((xs.length - 1) * sz) z.cells.toList 0 (w.setCells g (k * sz) news) (fun j hj => by
   rw [hB8.cell, Array.getElem?_eq_getElem (by rw [putL_size]; simp only [Array.length_toList] at hj; omega)]; rfl) (fun j hj => hB8.frozen _) hone
 obtain ⟨hB9, hb9⟩ := setCells_blk (g := g) (t := e) z.cells.toList _ _ ((xs.length - 1) * sz) hB8
 refine ⟨_, _, hrun, ?_, ?_, hb8.trans hb9⟩
 ·simp only [Nat.add_zero] at hst
  simp [Builtin.clear_, run_underlying H.under, hzv, hzc, hst]
 ·have hel : (xs.eraseIdx k).length = xs.length - 1 := List.length_eraseIdx_of_lt hk
  have hefl : (xs.eraseIdx k).flatMap enc = (xs.flatMap enc).take (k * sz) ++ news := by
   rw [List.eraseIdx_eq_take_drop_succ, List.flatMap_append, (flat_append he xs k).2]
  refine ⟨hel.symm, ?_⟩
  rw [hel]
  refine ⟨by rw [enc_len he, hel], .inr ⟨g, c, _, rfl, hbg, hB9, by omega, h4, by rw [putL_size, putL_size]; exact h5, ?_⟩⟩
  apply List.ext_getElem?; intro j
  have ht : ((xs.flatMap enc).take (k * sz)).length = k * sz := by rw [List.length_take, enc_len he]; exact Nat.min_eq_left (Nat.mul_le_mul_right _ (by omega))
  rw [hefl]
  rcases Nat.lt_or_ge j ((xs.length - 1) * sz) with hj | hj
  ·rw [List.getElem?_take_of_lt hj, Array.getElem?_toList, putL_get _ _ _ (by rw [putL_size]; simp only [Array.length_toList]; omega), if_neg (by omega), putL_get _ _ _ (by omega)]
   by_cases hjk : k * sz ≤ j
   ·rw [if_pos (by omega), List.getElem?_append_right (by omega), ht]
   ·rw [if_neg (by omega), List.getElem?_append_left (by omega), List.getElem?_take_of_lt (by omega), hcur _ (by omega)]
  ·rw [List.getElem?_eq_none (by simp; omega), List.getElem?_eq_none (by rw [List.length_append, ht]; omega)]
end Go.V
