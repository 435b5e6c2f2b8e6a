/- A part of the proof: plain forms of functions and laws about them. -/
import Derived.Test.YtbiamhoonhjodabGreatDoorGrorAt
import Derived.ArgAppend
namespace Go.V
open Go.RowKit (Below)
theorem MapSt.heap {K V : Type} [DecidableEq K] {enc : K → Value} {encV : V → Value} {z : V} {w w' : World} {r : Nat} {f : K → V} {a : K} {st : Nat} (h : MapSt enc encV z w r f a st) (k : w'.heap[r]? = w.heap[r]?) : MapSt enc encV z w' r f a st := by
  obtain ⟨m, bs, c, i, h1, h2, h3⟩ := h
  exact ⟨m, bs, c, i, h1.heap k, h2, h3⟩
theorem MapSt.lt {K V : Type} [DecidableEq K] {enc : K → Value} {encV : V → Value} {z : V} {w : World} {r : Nat} {f : K → V} {a : K} {st : Nat} (h : MapSt enc encV z w r f a st) : r < w.heap.size := by
  obtain ⟨m, bs, c, i, ⟨⟨es, he, _⟩, _⟩, _⟩ := h
  exact (Array.getElem?_eq_some_iff.1 he).1
def RowT {ρ : Type} (own : OwnM ρ) (r : ρ) (e : TypeId) (w : World) (s : SL) (xs : List Int) : Prop :=
  (s = (none, 0, 0) ∧ xs = []) ∨ ∃ g o c cur, s = (some ⟨g, o, none⟩, xs.length, c) ∧ xs.length ≤ c ∧ own g = some r ∧ Blk w g cur e ∧ o + c ≤ cur.size ∧ ∀ i, i < xs.length → cur[o + i]? = (xs[i]?).map fun x => Value.int .i64 x
section
variable {ρ : Type} {own own' : OwnM ρ} {r r2 : ρ} {w w' : World} {e : TypeId} {s : SL} {xs : List Int}
theorem RowT.nil (own : OwnM ρ) (r : ρ) (e : TypeId) (w : World) : RowT own r e w (none, 0, 0) [] := .inl ⟨rfl, rfl⟩
theorem RowT.len (h : RowT own r e w s xs) : s.2.1 = xs.length := by
  rcases h with ⟨rfl, rfl⟩ | ⟨g, o, c, cur, rfl, _⟩ <;> rfl
theorem RowT.owns (h : RowT own r e w s xs) : ∀ k, sblk s = some k → own k = some r := by
  rcases h with ⟨rfl, rfl⟩ | ⟨g, o, c, cur, rfl, _, ho, _⟩
  · intro k hk; cases hk
  · intro k hk; cases hk; exact ho
theorem RowT.lt (h : RowT own r e w s xs) : ∀ k, sblk s = some k → k < w.heap.size := by
  rcases h with ⟨rfl, rfl⟩ | ⟨g, o, c, cur, rfl, _, ho, hb, _⟩
  · intro k hk; cases hk
  · intro k hk; cases hk; exact hb.lt
theorem RowT.frame (h : RowT own r e w s xs) (k : ∀ b, b < w.heap.size → own b ≠ none → w'.heap[b]? = w.heap[b]?) : RowT own r e w' s xs := by
  rcases h with h | ⟨g, o, c, cur, rfl, hl, ho, hb, rest⟩
  · exact .inl h
  · exact .inr ⟨g, o, c, cur, rfl, hl, ho, (k g hb.lt (by rw [ho]; simp)).trans hb, rest⟩
theorem RowT.ext (h : RowT own r e w s xs) (k : Ext w w') : RowT own r e w' s xs := h.frame fun b hb _ => k.block b hb
theorem RowT.upd (h : RowT own r2 e w s xs) (u : Upd own own' r w w') (hne : r2 ≠ r) : RowT own' r2 e w' s xs := by
  rcases h with h | ⟨g, o, c, cur, rfl, hl, ho, hb, rest⟩
  · exact .inl h
  · exact .inr ⟨g, o, c, cur, rfl, hl, by rw [u.same g hb.lt]; exact ho, (u.block g hb.lt (by rw [ho]; simpa using hne)).trans hb, rest⟩
theorem RowT.at_ (h : RowT own r e w s xs) {i : Nat} (hi : i < xs.length) : ∃ g o, s.1 = some ⟨g, o, none⟩ ∧ w.cell? ⟨g, o + i, none⟩ = some (.int .i64 xs[i]) := by
  rcases h with ⟨rfl, rfl⟩ | ⟨g, o, c, cur, rfl, hl, ho, hb, hc, hx⟩
  · simp at hi
  · exact ⟨g, o, rfl, by rw [hb.cell, hx i hi, List.getElem?_eq_getElem hi]; rfl⟩
theorem RowT.tail {a : Option Addr} {l c : Nat} {x : Int} (h : RowT own r e w (a, l, c) (x :: xs)) : 1 ≤ l ∧ l ≤ c ∧ RowT own r e w (if c = 1 then a else a.map (·.add 1), l - 1, c - 1) xs := by
  rcases h with ⟨_, h⟩ | ⟨g, o, c', cur, hs, hl, ho, hb, hc, hx⟩
  · cases h
  · simp only [Prod.mk.injEq] at hs
    obtain ⟨rfl, rfl, rfl⟩ := hs
    simp only [List.length_cons] at hl hx ⊢
    refine ⟨by omega, hl, .inr ?_⟩
    by_cases h1 : c = 1
    · rw [if_pos h1]
      exact ⟨g, o, c - 1, cur, rfl, by omega, ho, hb, by omega, fun i hi => by omega⟩
    · rw [if_neg h1]
      refine ⟨g, o + 1, c - 1, cur, by simp [add_mk], by omega, ho, hb, by omega, fun i hi => ?_⟩
      have := hx (i + 1) (by omega)
      rw [show o + 1 + i = o + (i + 1) by omega, this]; rfl
theorem RowT.ofOwn {base : Nat} {a : Option Addr} {l c : Nat} (h : OwnR base e 1 eI w a l c xs) (ho : ∀ k, sblk (a, l, c) = some k → own k = some r) : RowT own r e w (a, l, c) xs := by
  obtain ⟨hl, h1, h2⟩ := h
  rcases h2 with ⟨h0, hn⟩ | ⟨g, cap, cur, hv, hbg, hg, h3, h4, h5, h6⟩
  · cases h0; left; exact ⟨rfl, List.length_eq_zero_iff.1 hn⟩
  · simp only [Value.slice.injEq] at hv
    obtain ⟨rfl, rfl, rfl⟩ := hv
    refine .inr ⟨g, 0, c, cur, rfl, h3, ho g rfl, hg, by omega, fun i hi => ?_⟩
    have := congrArg (·[i]?) h6
    simp only [Nat.mul_one] at this
    rw [List.getElem?_take_of_lt hi, Array.getElem?_toList] at this
    rw [Nat.zero_add, this]
    have e2 := enc_get (enc := eI) eI_len (i := i) (j := 0) (List.getElem?_eq_getElem hi) (by omega)
    simp only [Nat.mul_one, Nat.add_zero] at e2
    rw [e2, List.getElem?_eq_getElem hi]; rfl
theorem RowT.push {P : Program} {t ty : TypeId} {bytes : Nat} (x : Int) (H : SlT P t e 1 bytes) (h : RowT own r e w s xs) (hlen : (xs.length + 1) * bytes ≤ 140737488355328) {b c2 : Nat} (hb : w.cell? ⟨b, 0, none⟩ = some (.int .i64 x)) :
    ∃ s' w', Sem.run P (Builtin.append_ #[t, t] ty #[.slice s.1 s.2.1 s.2.2, .slice (some ⟨b, 0, none⟩) 1 c2]) w = .ok (.slice s'.1 s'.2.1 s'.2.2) w' ∧
      RowT (setOwn own (sblk s') r) r e w' s' (xs ++ [x]) ∧ Upd own (setOwn own (sblk s') r) r w w' := by
  have hnews : ∀ j u, [Value.int .i64 x][j]? = some u → w.cell? ((⟨b, 0, none⟩ : Addr).add j) = some u := fun j u hj => by
    cases j with
    | zero => simp at hj; subst hj; rw [add_mk]; exact hb
    | succ j => simp at hj
  obtain ⟨i, z, hi, hz, hsz, hby, hzs⟩ := H.info
  have h63 : xs.length + 1 ≤ maxLen := by
    have := Nat.le_mul_of_pos_right (xs.length + 1) H.posB
    simp only [maxLen]; omega
  have viaOwn : ∀ {a : Option Addr} {l c : Nat}, OwnR 0 e 1 eI w a l c xs → s = (a, l, c) → ∃ s' w', Sem.run P (Builtin.append_ #[t, t] ty #[.slice s.1 s.2.1 s.2.2, .slice (some ⟨b, 0, none⟩) 1 c2]) w = .ok (.slice s'.1 s'.2.1 s'.2.2) w' ∧
      RowT (setOwn own (sblk s') r) r e w' s' (xs ++ [x]) ∧ Upd own (setOwn own (sblk s') r) r w w' := by
    rintro a l c hO rfl
    obtain ⟨a', c', w', q1, q2, q3, q4⟩ := OwnR.appendN (ty := ty) H (xs := xs) (ys := [x]) hO (Nat.zero_le _) eI_len eI_one ⟨b, 0, none⟩ c2 (fun j u hj => hnews j u (by simpa [eI] using hj)) hlen
    refine ⟨(a', xs.length + 1, c'), w', q1, RowT.ofOwn q2 fun k hk => by unfold setOwn; rw [if_pos hk], Upd.of_grown q3 h.owns ?_ (fun k hk => (q2.lt k hk).2)⟩
    rcases q4 with q4 | q4
    · exact .inl q4
    · exact .inr ⟨_, q4, Nat.le_refl _⟩
  rcases h with ⟨rfl, rfl⟩ | ⟨g, o, c, cur, rfl, hl, ho, hB, hc, hx⟩
  · exact viaOwn (OwnR.nil _ _ _ _ _) rfl
  · by_cases hroom : xs.length + 1 ≤ c
    · have hro := run_append_room_cells (P := P) w t ty e i H.under hi g o xs.length c ⟨b, 0, none⟩ 1 c2 [.int .i64 x] (by simp [hsz]) hnews (by simp [Value.oneCell']) hroom
        (fun j hj => by simp at hj; subst hj; rw [hsz, hB.cell, Array.getElem?_eq_getElem (by omega)]; rfl) (fun j hj => hB.frozen _)
      refine ⟨(some ⟨g, o, none⟩, xs.length + 1, c), _, hro, ?_, ?_⟩
      · refine .inr ⟨g, o, c, cur.setIfInBounds (o + xs.length) (.int .i64 x), by simp, by simpa using hroom, by show (if some g = some g then some r else own g) = some r; rw [if_pos rfl], ?_, by simpa using hc, fun j hj => ?_⟩
        · rw [hsz, Nat.mul_one]; exact heap_setCell_same w g (o + xs.length) cur e _ hB
        · simp only [List.length_append, List.length_singleton] at hj
          rw [Array.getElem?_setIfInBounds]
          by_cases hj2 : j = xs.length
          · subst hj2; rw [if_pos rfl, if_pos (by omega), List.getElem?_append_right (Nat.le_refl _)]; simp
          · rw [if_neg (by omega), hx j (by omega), List.getElem?_append_left (by omega)]
      · have hbut : But g w (w.setCells g (o + xs.length * i.size) [.int .i64 x]) := ⟨rfl, rfl, rfl, by simp [World.setCells], fun k hk => heap_setCell_other w _ k _ hk⟩
        have hu := Upd.of_but hbut ho
        have : setOwn own (sblk (some ⟨g, o, none⟩, xs.length + 1, c)) r = own := by
          funext k; unfold setOwn; split
          · rename_i e1; have e1 : some g = some k := e1; cases e1; exact ho.symm
          · rfl
        rw [this]; exact hu
    · have hxs : (xs.map fun x => Value.int .i64 x).length = xs.length * 1 := by simp
      obtain ⟨v', w', q1, q2, q3⟩ := run_append_arg_grows (P := P) w t ty e i z 1 bytes H.under hi hz hsz hby hzs (by omega) ⟨g, o, none⟩ xs.length c (xs.map fun x => .int .i64 x) hxs (fun j u hj => by
          have hjl : j < xs.length := by have := (List.getElem?_eq_some_iff.1 hj).1; simpa using this
          rw [add_mk, hB.cell, hx j hjl]; simpa using hj) ⟨b, 0, none⟩ 1 c2 [.int .i64 x] (by simp) hnews (by omega) h63 hlen
      have hfl : (xs.map fun x => Value.int .i64 x) ++ [.int .i64 x] = (xs ++ [x]).flatMap eI := by
        have : ∀ l : List Int, (l.map fun x => Value.int .i64 x) = l.flatMap eI := fun l => by
          induction l with
          | nil => rfl
          | cons y ys ih => rw [List.map_cons, ih, List.flatMap_cons]; rfl
        rw [← this, List.map_append]; rfl
      rw [hfl] at q2
      rcases q2.2 with ⟨rfl, h0⟩ | ⟨g2, cap, cur2, rfl, hge, hh, h3, h4, h5, h6⟩
      · omega
      · refine ⟨(some ⟨g2, 0, none⟩, xs.length + 1, cap), w', q1, RowT.ofOwn (base := w.heap.size) ⟨by simp, by simpa using q2⟩ fun k hk => by unfold setOwn; rw [if_pos hk], ?_⟩
        exact Upd.of_grown (row := none) q3 (fun k hk => by cases hk) (.inr ⟨g2, rfl, hge⟩) (fun k hk => by cases hk; exact (Array.getElem?_eq_some_iff.1 hh).1)
end
end Go.V
