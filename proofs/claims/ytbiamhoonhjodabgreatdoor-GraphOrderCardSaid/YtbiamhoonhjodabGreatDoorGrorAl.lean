/- A part of the proof: plain forms of functions and laws about them. -/
import Derived.Test.YtbiamhoonhjodabGreatDoorGrorAk
import Derived.Laws.BytesString
namespace Go.V
open Go.RowKit (Below)
def bl (s : ByteArray) : List UInt8 := s.data.toList
theorem bl_append (a b : ByteArray) : bl (a ++ b) = bl a ++ bl b := by simp [bl]
theorem bl_size (s : ByteArray) : (bl s).length = s.size := by simp [bl]
theorem bl_mk (l : Array UInt8) : bl ⟨l⟩ = l.toList := rfl
theorem bl_inj {a b : ByteArray} (h : bl a = bl b) : a = b := by
  obtain ⟨⟨x⟩⟩ := a
  obtain ⟨⟨y⟩⟩ := b
  simp [bl] at h
  rw [h]
theorem bl_get (s : ByteArray) (i : Nat) : s[i]? = (bl s)[i]? := by
  by_cases h : i < s.size
  · have h2 : i < (bl s).length := by rw [bl_size]; exact h
    rw [getElem?_pos s i h, List.getElem?_eq_getElem h2]
    simp only [bl, Array.getElem_toList]; rfl
  · have h2 : (bl s).length ≤ i := by rw [bl_size]; omega
    rw [getElem?_neg s i h, List.getElem?_eq_none h2]
theorem bl_toList (s : ByteArray) : s.toList = bl s := ByteArray.toList_eq s
theorem bl_eq (s t : ByteArray) : (s.toList == t.toList) = decide (bl s = bl t) := by
  rw [bl_toList, bl_toList]
  by_cases h : bl s = bl t
  · simp [h]
  · simp [h]
theorem bl_extract (s : ByteArray) (i j : Nat) : bl (s.extract i j) = (bl s).extract i j := by
  simp [bl]
theorem run_byteString {P : Program} {src dst e : TypeId} {w : World} {b : Nat} {x : Int} {t : Nat} (hs : P.underlying src = some (.slice e)) (he : P.underlying e = some (.int .u8)) (hd : P.underlying dst = some .string) (hb : Blk w b #[.int .u8 x] t) :
    Sem.run P (convert src dst (.slice (some ⟨b, 0, none⟩) 1 1)) w = .ok (.string ⟨#[UInt8.ofNat x.toNat]⟩) w := by
  rw [run_convert_bytes_string w src dst e _ 1 1 hs he hd]
  have := run_loadCells_list (P := P) (w := w) ⟨b, 0, none⟩ [.int .u8 x] (fun j v hj => by
    rw [add_mk, Nat.zero_add, hb.cell]; simpa using hj)
  exact run_bytesToString w _ 1 1 [x] this
/-! ### Digits -/
def dg (x : Nat) : UInt8 := UInt8.ofNat (48 + x)
theorem dg_nat {x : Nat} (h : x < 10) : (dg x).toNat = 48 + x := by
  rw [dg, UInt8.toNat_ofNat']; omega
def decN (n : Nat) : List UInt8 :=
  if n < 10 then [dg n] else if n < 100 then [dg (n / 10), dg (n % 10)] else if n < 1000 then [dg (n / 10 / 10), dg (n / 10 % 10), dg (n % 10)]
  else [dg (n / 10 / 10 / 10), dg (n / 10 / 10 % 10), dg (n / 10 % 10), dg (n % 10)]
theorem decN_one {n : Nat} (h : n < 10) : decN n = [dg n] := by rw [decN, if_pos h]
theorem decN_step {n : Nat} (h : 10 ≤ n) (h2 : n < 10000) : decN n = decN (n / 10) ++ decN (n % 10) := by
  rw [decN_one (n := n % 10) (by omega)]
  unfold decN
  rw [if_neg (by omega)]
  by_cases h3 : n < 100
  · rw [if_pos h3, if_pos (by omega)]; rfl
  rw [if_neg h3]
  rw [if_neg (by omega : ¬ n / 10 < 10)]
  by_cases h4 : n < 1000
  · rw [if_pos h4, if_pos (by omega)]; rfl
  · rw [if_neg h4, if_neg (by omega), if_pos (by omega)]; rfl
theorem decN_len (n : Nat) : 1 ≤ (decN n).length ∧ (decN n).length ≤ 4 := by
  unfold decN; split
  · simp
  split
  · simp
  split <;> simp
def isD (c : UInt8) : Prop := 48 ≤ c.toNat ∧ c.toNat ≤ 57
theorem dg_d {x : Nat} (h : x < 10) : isD (dg x) := by rw [isD, dg_nat h]; omega
theorem decN_d {n : Nat} (h : n < 10000) : ∀ c ∈ decN n, isD c := by
  intro c hc
  unfold decN at hc
  split at hc
  · simp at hc; subst hc; exact dg_d (by omega)
  split at hc
  · simp at hc; rcases hc with rfl | rfl <;> exact dg_d (by omega)
  split at hc
  · simp at hc; rcases hc with rfl | rfl | rfl <;> exact dg_d (by omega)
  · simp at hc; rcases hc with rfl | rfl | rfl | rfl <;> exact dg_d (by omega)
def valL (l : List UInt8) : Nat := l.foldl (fun n c => 10 * n + (c.toNat - 48)) 0
theorem valL_snoc (l : List UInt8) (u : UInt8) : valL (l ++ [u]) = 10 * valL l + (u.toNat - 48) := by simp [valL, List.foldl_append]
theorem valL_dec {n : Nat} (h : n < 10000) : valL (decN n) = n := by
  unfold decN valL
  split
  · simp [dg_nat, *]
  split
  · simp only [List.foldl_cons, List.foldl_nil]; rw [dg_nat (by omega), dg_nat (by omega)]; omega
  split
  · simp only [List.foldl_cons, List.foldl_nil]; rw [dg_nat (by omega), dg_nat (by omega), dg_nat (by omega)]; omega
  · simp only [List.foldl_cons, List.foldl_nil]; rw [dg_nat (by omega), dg_nat (by omega), dg_nat (by omega), dg_nat (by omega)]; omega
theorem snoc_ind {α : Type} {P : List α → Prop} (h0 : P []) (h1 : ∀ l a, P l → P (l ++ [a])) (l : List α) : P l := by
  rw [← List.reverse_reverse l]
  induction l.reverse with
  | nil => exact h0
  | cons a t ih => rw [List.reverse_cons]; exact h1 _ _ ih
theorem valL_mono (l m : List UInt8) : valL l ≤ valL (l ++ m) :=
  snoc_ind (P := fun m => valL l ≤ valL (l ++ m)) (by simp) (fun m u ih => by rw [← List.append_assoc, valL_snoc]; omega) m
theorem valL_lt {l : List UInt8} (h : ∀ c ∈ l, isD c) : valL l < 10 ^ l.length := by
  revert h
  refine snoc_ind (P := fun l => (∀ c ∈ l, isD c) → valL l < 10 ^ l.length) (fun _ => by simp [valL]) (fun m u ih h => ?_) l
  have h1 := ih fun c hc => h c (List.mem_append_left _ hc)
  have h2 := h u (by simp)
  simp only [isD] at h2
  rw [valL_snoc, List.length_append, List.length_singleton, Nat.pow_succ]; omega
def seg (s : ByteArray) (i k : Nat) : List UInt8 := ((bl s).drop i).take k
theorem seg_succ {s : ByteArray} {i k : Nat} {u : UInt8} (h : (bl s)[i + k]? = some u) : seg s i (k + 1) = seg s i k ++ [u] := by
  rw [seg, seg, List.take_add_one, List.getElem?_drop, h]; rfl
theorem seg_zero (s : ByteArray) (i : Nat) : seg s i 0 = [] := by simp [seg]
structure Digs (s : ByteArray) (i k : Nat) (n : Nat) : Prop where
  le : i + k ≤ s.size
  all : ∀ c ∈ seg s i k, isD c
  val : n = valL (seg s i k)
theorem Digs.len {s : ByteArray} {i k n : Nat} (h : Digs s i k n) : (seg s i k).length = k := by
  have := h.le
  rw [seg, List.length_take, List.length_drop, bl_size]; omega
theorem Digs.lt {s : ByteArray} {i k n : Nat} (h : Digs s i k n) : n < 10 ^ k := by
  have := valL_lt h.all; rw [h.len] at this; rw [h.val]; exact this
theorem Digs.zero {s : ByteArray} {i : Nat} (h : i ≤ s.size) : Digs s i 0 0 := ⟨by omega, by simp [seg_zero], by simp [seg_zero, valL]⟩
theorem Digs.succ {s : ByteArray} {i k n : Nat} {u : UInt8} (h : Digs s i k n) (hu : (bl s)[i + k]? = some u) (hd : isD u) : Digs s i (k + 1) (10 * n + (u.toNat - 48)) := by
  have hlt : i + k < s.size := by rw [← bl_size]; exact (List.getElem?_eq_some_iff.1 hu).1
  refine ⟨by omega, ?_, ?_⟩
  · rw [seg_succ hu]
    intro c hc
    rcases List.mem_append.1 hc with hc | hc
    · exact h.all c hc
    · simp at hc; subst hc; exact hd
  · rw [seg_succ hu, valL_snoc, ← h.val]
def NoD (s : ByteArray) (j : Nat) : Prop := ∀ u, (bl s)[j]? = some u → ¬ isD u
theorem Digs.exact {s : ByteArray} {i k n v : Nat} {R : List UInt8} (h : Digs s i k n) (hv : v < 10000) (hs : (bl s).drop i = decN v ++ R) (hR : ∀ u, R.head? = some u → ¬ isD u)
    (hstop : NoD s (i + k) ∨ (k < (decN v).length → v < n)) : k = (decN v).length ∧ n = v ∧ (bl s).drop (i + k) = R := by
  have hlen := h.len
  have hle := h.le
  have hk : k ≤ (decN v).length := by
    rcases Nat.lt_or_ge (decN v).length k with hlt | hge
    · exfalso
      have h1 : (seg s i k)[(decN v).length]? = R[0]? := by
        rw [seg, hs, List.getElem?_take, if_pos hlt, List.getElem?_append_right (Nat.le_refl _), Nat.sub_self]
      rw [List.getElem?_eq_getElem (by omega)] at h1
      exact hR _ (by rw [List.head?_eq_getElem?]; exact h1.symm) (h.all _ (List.getElem_mem _))
    · exact hge
  have hseg : seg s i k = (decN v).take k := by rw [seg, hs, List.take_append_of_le_length hk]
  have hk2 : k = (decN v).length := by
    rcases Nat.lt_or_ge k (decN v).length with hlt | hge
    · exfalso
      rcases hstop with hst | hst
      · have h1 : (bl s)[i + k]? = some (decN v)[k] := by
          rw [← List.getElem?_drop, hs, List.getElem?_append_left hlt, List.getElem?_eq_getElem hlt]
        exact hst _ h1 (decN_d hv _ (List.getElem_mem _))
      · have h1 := hst hlt
        have h2 := valL_mono ((decN v).take k) ((decN v).drop k)
        rw [List.take_append_drop, valL_dec hv, ← hseg, ← h.val] at h2
        omega
    · omega
  refine ⟨hk2, ?_, ?_⟩
  · rw [h.val, hseg, hk2, List.take_length, valL_dec hv]
  · rw [← List.drop_drop, hs, hk2, List.drop_left]
end Go.V
