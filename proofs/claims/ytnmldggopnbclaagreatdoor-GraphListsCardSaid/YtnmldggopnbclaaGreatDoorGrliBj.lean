/- A part of the proof: plain forms of functions and laws about them. -/
import Derived.Test.YtnmldggopnbclaaGreatDoorGrliBi
namespace Go.V
open Go.RowKit (Below)
open Go.Lib
section
variable {ρ ρ' : Rn} {m m' : AMem} {w w' w0 : World} {P : Program}
def availE (m : AMem) : Value → Nat
 | .slice (some ⟨tk, off, none⟩) _ c => match m.get tk with
  | some (.cells cs _ (some (s, sz))) => (match (Nat.beq (c / 4294967296) s && Nat.beq off (c % 4294967296 * sz)) && (Nat.blt 0 sz && !Nat.blt c symB) with | true => cs.length / sz - c % 4294967296 | false => 0)
  | _ => 0
 | _ => 0
theorem availE_ok (hm : Mem w0 ρ m w) {x : Value} : ∀ o l c, x = .slice o l c → availE m x ≤ ρ.c c := by
 rintro o l c rfl
 unfold availE
 split
 ·rename_i tk off _ c' he
  cases he
  split
  ·rename_i cs ty s sz hg
   split
   ·rename_i hc
    simp only [Bool.and_eq_true, Bool.not_eq_true'] at hc
    obtain ⟨⟨e1, e2⟩, e3, e4⟩ := hc
    have e1 := Nat.eq_of_beq_eq_true e1
    have e2 := Nat.eq_of_beq_eq_true e2
    have e3 : 0 < sz := Nat.le_of_ble_eq_true e3
    subst e1
    obtain ⟨_, _, full, hB, hcs, hgr⟩ := hm.obj tk _ hg rfl
    rw [sym_c (by rw [e4]; simp)]
    have hle : cs.length ≤ ρ.cap (c / 4294967296) * sz := by
     rcases Nat.eq_zero_or_pos cs.length with h0 | h0
     ·rw [h0]; exact Nat.zero_le _
     ·obtain ⟨v, hv, _⟩ := hcs (cs.length - 1) _ (List.getElem?_eq_getElem (by omega))
      have := (Array.getElem?_eq_some_iff.1 hv).1
      have := hgr.2
      omega
    have h2 : cs.length / sz ≤ ρ.cap (c / 4294967296) := Nat.div_le_of_le_mul (by rw [Nat.mul_comm]; exact hle)
    omega
   ·exact Nat.zero_le _
  ·exact Nat.zero_le _
 ·exact Nat.zero_le _
def appE (P : Program) (t u : Nat) (d x : Value) (m : AMem) : Option (Value × AMem) :=
 match P.underlying t with
 | some (.slice e) => match P.info? e with
  | some inf => match slOk P t e inf.size inf.bytes, d with
   | true, .slice o l c => match x with
    | .slice o2 k _ => (match Nat.beq t u with
     | true => (match k with
      | 0 => some (.slice o l c, m)
      | k + 1 => (match o2 with
       | some p => (match rowE m p 0 ((k + 1) * inf.size) with
        | some us => (match oneCells us with | true => appN e inf.size inf.bytes o l c (k + 1) us m | false => none)
        | none => none)
       | none => none))
     | false => none)
    | .string s => (match P.underlying u with
     | some .string => (match Nat.beq inf.size 1 with
      | true => (match s with
       | ⟨⟨[]⟩⟩ => some (.slice o l c, m)
       | s => appN e 1 inf.bytes o l c s.size (strCells s) m)
      | false => none)
     | _ => none)
    | _ => none
   | _, _ => none
  | none => none
 | _ => none
theorem appN_ne {e sz bytes : Nat} {o : Option Addr} {l c k : Nat} {us : List Value} {y : Value} (h : appN e sz bytes o l c k us m = some (y, m')) : o ≠ some emp := by
 rintro rfl
 unfold appN emp at h
 split at h
 ·cases h
 ·cases h
theorem sliceR {o : Option Addr} {l c : Nat} {d : Value} (r : VR ρ (.slice o l c) d) : ∃ a c', d = .slice a l c' ∧ l ≤ c' := by
 cases r with
 | slice _ _ _ h => exact ⟨_, _, rfl, h⟩
 | empty a c => exact ⟨_, _, rfl, Nat.zero_le _⟩
 | tail => exact ⟨_, _, rfl, Nat.zero_le _⟩
theorem plainsL {us : List Value} (h : us.all plainV = true) : LR ρ us us := plainL h
theorem strPlain (s : ByteArray) : (strCells s).all plainV = true := by
 unfold strCells
 rw [List.all_map, List.all_eq_true]
 intro x _; rfl
theorem appE_ok {t u ty : Nat} {d x d' x' y : Value} (h : appE P t u d x m = some (y, m')) (rd : VR ρ d d') (rx : VR ρ x x') (hm : Mem w0 ρ m w) : RunT P w0 ρ m w (Builtin.append_ #[t, u] ty #[d', x']) y m' := by
 unfold appE at h
 split at h
 ·rename_i e hu
  split at h
  ·rename_i inf hinf
   split at h
   ·rename_i o l c hsl
    have H := slOk.ok hsl
    split at h
    ·rename_i o2 k c2
     split at h
     ·rename_i htu
      have htu := Nat.eq_of_beq_eq_true htu
      subst htu
      split at h
      ·cases h
       obtain ⟨a, c', rfl, hlc⟩ := sliceR rd
       obtain ⟨a2, c2', rfl, _⟩ := sliceR rx
       exact ⟨ρ, _, w, run_append_zero H hlc (.inl ⟨rfl, _, _, rfl⟩), Ev.refl hm, rd⟩
      ·rename_i k
       split at h
       ·rename_i p
        split at h
        ·rename_i us hus
         split at h
         ·rename_i h1
          obtain ⟨vs, r1, r2, r3⟩ := rowE_ok hm.c hus
          cases rx with
          | slice _ _ _ hl hod hcd =>
          have S : Src P w t t e inf.size inf.bytes (.slice ((some p).map ρ.a) (k + 1) (ρ.c c2)) (k + 1) vs := Src.ofSlice H r2 (fun j v hj => by
           have hj2 : j < (k + 1) * inf.size := by rw [← r2]; exact (List.getElem?_eq_some_iff.1 hj).1
           have := r3 j hj2
           rw [Nat.zero_add] at this
           rw [this]; exact hj) (onesR r1 h1)
          exact appN_ok h S r1 hm rd (appN_ne h)
         ·cases h
        ·cases h
       ·cases h
     ·cases h
    ·rename_i s
     split at h
     ·rename_i hus
      split at h
      ·rename_i h1
       have h1 := Nat.eq_of_beq_eq_true h1
       rw [h1] at H
       cases rx
       split at h
       ·cases h
        obtain ⟨a, c', rfl, hlc⟩ := sliceR rd
        exact ⟨ρ, _, w, run_append_zero H hlc (.inr ⟨hus, rfl⟩), Ev.refl hm, rd⟩
       ·exact appN_ok h (Src.ofStr H hus s) (plainsL (strPlain s)) hm rd (appN_ne h)
      ·cases h
     ·cases h
    ·cases h
   ·cases h
  ·cases h
 ·cases h
/-! ### Strings and bytes -/
def intsOf : List Value → Option (List Int)
 | [] => some []
 | .int .u8 n :: us => match intsOf us with | some ns => some (n :: ns) | none => none
 | _ => none
theorem intsOf_ok : ∀ {us : List Value} {ns : List Int}, intsOf us = some ns → us = ns.map (.int .u8)
 | [], ns, h => by cases h; rfl
 | u :: us, ns, h => by
  unfold intsOf at h
  split at h
  ·rename_i he; cases he
  ·rename_i n us' he
   cases he
   split at h
   ·rename_i ns' hn; cases h; rw [intsOf_ok hn]; rfl
   ·cases h
  ·cases h
theorem LR.ints {ns : List Int} {vs : List Value} (h : LR ρ (ns.map (Value.int .u8)) vs) : vs = ns.map (.int .u8) := by
 apply List.ext_getElem?
 intro i
 cases hi : (ns.map (Value.int .u8))[i]? with
 | none =>
  have := h.len
  have h2 := List.getElem?_eq_none_iff.1 hi
  exact List.getElem?_eq_none (by omega)
 | some u =>
  obtain ⟨v, hv, r⟩ := h.get hi
  rw [List.getElem?_map] at hi
  cases hn : ns[i]? with
  | none => rw [hn] at hi; cases hi
  | some n =>
   rw [hn] at hi
   simp only [Option.map_some, Option.some.injEq] at hi
   subst hi
   cases r; exact hv
def cvE (P : Program) (s d : Nat) (x : Value) (m : AMem) : Option (Value × AMem) :=
 match P.underlying s, P.underlying d, x with
 | some .string, some (.slice e), .string str => match P.underlying e with
  | some (.int .u8) => some (.slice (some ⟨m.next, 0, none⟩) str.size (symC (symI + m.caps)), m.fresh none (.cells (strCells str) e (some (symI + m.caps, 1))))
  | _ => none
 | some (.slice e), some .string, .slice o l _ => match P.underlying e with
  | some (.int .u8) => (match o with
   | none => some (.string ByteArray.empty, m)
   | some p => (match l with
    | 0 => some (.string ByteArray.empty, m)
    | l + 1 => (match rowE m p 0 (l + 1) with
     | some us => (match intsOf us with | some ns => some (.string (strOfNums ns), m) | none => none)
     | none => none)))
  | _ => none
 | _, _, _ => none
theorem cvE_ok {s d : Nat} {x x' y : Value} (h : cvE P s d x m = some (y, m')) (rx : VR ρ x x') (hm : Mem w0 ρ m w) : RunT P w0 ρ m w (convert s d x') y m' := by
 unfold cvE at h
 split at h
 ·rename_i e str hs hd
  split at h
  ·rename_i he
   cases h
   cases rx
   have hrun := Go.Lib.run_convert_string_bytes (P := P) w s d e str hs hd he
   have hnew := bytesWorld_at_new w e str
   have hsz : (bytesCells w e str).size = grownCap w str.size 0 e := by
    have := grownCap_ge w str.size 0 e
    simp [bytesCells]
    have e1 : str.data.size = str.size := rfl
    omega
   have hx : Ext w (bytesWorld w e str) := ⟨rfl, rfl, rfl, by rw [bytesWorld_size]; omega, fun i hi => bytesWorld_at_old w e str i hi⟩
   refine ⟨ρ.more m.next w.heap.size 0 (symI + m.caps) (grownCap w str.size 0 e), _, _, hrun, hm.fresh (kill := none) (fun t0 e => by cases e) (Below.trans hm.x (hx.mono hm.x.size)) hx.size (fun k hk2 _ => hx.block k hk2) (Array.getElem?_eq_some_iff.1 hnew).1 (.inl (Nat.le_refl _)) rfl fun le => ⟨bytesCells w e str, ⟨_, by simpa [Rn.more] using hnew, .inr (Nat.le_refl _)⟩, fun i u hu => ?_, .inr rfl, by simp [Rn.more, hsz]⟩, ?_⟩
   ·refine ⟨u, ?_, .plain (List.all_eq_true.1 (strPlain str) u (List.mem_of_getElem? hu))⟩
    simp only [Rn.more, if_true, Nat.zero_add]
    have hi : i < (strCells str).length := (List.getElem?_eq_some_iff.1 hu).1
    rw [strCells_length] at hi
    have e2 : (bytesCells w e str)[i]? = (str.data.map fun b => Value.int .u8 b.toNat)[i]? := by
     unfold bytesCells
     rw [Array.getElem?_append_left (by rw [Array.size_map]; exact hi)]
    rw [e2, ← hu, strCells, ← Array.getElem?_toList, Array.toList_map]
   ·have e1 : (ρ.more m.next w.heap.size 0 (symI + m.caps) (grownCap w str.size 0 e)).c (symC (symI + m.caps)) = grownCap w str.size 0 e := by rw [symC_c (by omega)]; simp [Rn.more]
    have := VR.slice (ρ := ρ.more m.next w.heap.size 0 (symI + m.caps) (grownCap w str.size 0 e)) (some ⟨m.next, 0, none⟩) str.size (symC (symI + m.caps)) (by rw [e1]; exact grownCap_ge w str.size 0 e) (fun p hp => by cases hp; exact .inr rfl) (symC_d (.inr rfl))
    rw [e1] at this
    simpa [Rn.more_a] using this
  ·cases h
 ·rename_i e o l c hs hd
  split at h
  ·rename_i he
   split at h
   ·cases h
    cases rx
    exact ⟨ρ, _, w, run_convert_bytes_nil w s e hs he _ _ d hd, Ev.refl hm, .string _⟩
   ·rename_i p
    split at h
    ·cases h
     obtain ⟨a, c', rfl, _⟩ := sliceR rx
     refine ⟨ρ, .string ByteArray.empty, w, ?_, Ev.refl hm, .string _⟩
     rw [run_convert_bytes_string w s d e a 0 c' hs he hd]
     cases a with
     | none => simp [Conv.bytesToString]
     | some a =>
      have := run_bytesToString (P := P) w a 0 c' [] (by simp [loadCells, loadCellsFrom])
      simpa using this
    ·rename_i l
     split at h
     ·rename_i us hus
      split at h
      ·rename_i ns hns
       cases h
       cases rx with
       | slice _ _ _ hl hod hcd =>
       obtain ⟨vs, r1, r2, r3⟩ := rowE_ok hm.c hus
       have e0 := intsOf_ok hns
       subst e0
       have e1 := r1.ints
       subst e1
       have hld := run_loadCells_list (P := P) (w := w) (ρ.a p) (ns.map (Value.int .u8)) (fun j v hj => by
        have hj2 : j < l + 1 := by rw [← r2]; exact (List.getElem?_eq_some_iff.1 hj).1
        have := r3 j hj2
        rw [Nat.zero_add] at this
        rw [this]; exact hj)
       rw [r2] at hld
       refine ⟨ρ, _, w, ?_, Ev.refl hm, .string _⟩
       show (convert s d (.slice (some (ρ.a p)) (l + 1) (ρ.c c))).run P w = _
       rw [run_convert_bytes_string w s d e _ (l + 1) _ hs he hd, run_bytesToString w _ (l + 1) _ ns hld, foldl_push_bytes]
       simp [strOfNums]
      ·cases h
     ·cases h
  ·cases h
 ·cases h
/-! ### clear -/
def clearE (P : Program) (t : Nat) (x : Value) (m : AMem) : Option (Value × AMem) :=
 match P.underlying t, x with
 | some (.slice e), .slice o n _ => match n with
  | 0 => some (.tuple #[], m)
  | n + 1 => match o, P.info? e with
   | some ⟨tk, off, none⟩, some inf => match inf.zero, m.get tk with
    | some z, some (.cells cs ty g) => (match (z.cells.toList.all plainV && oneCells z.cells.toList) && (!z.cells.toList.isEmpty && Nat.ble (off + (litCells z.cells.toList (n + 1)).length) cs.length) with
     | true => some (.tuple #[], m.put tk (.cells (ovw cs off (litCells z.cells.toList (n + 1))) ty g))
     | false => none)
    | _, _ => none
   | _, _ => none
 | _, _ => none
theorem lit_all {z : List Value} {p : Value → Bool} (h : z.all p = true) : ∀ n, (litCells z n).all p = true
 | 0 => rfl
 | n + 1 => by rw [litCells, List.all_append, h, lit_all h n]; rfl
theorem oneCells_iff {vs : List Value} : oneCells vs = vs.all (·.oneCell') := by
 induction vs with
 | nil => rfl
 | cons v vs ih => simp [oneCells, ih]
theorem clearE_ok {t ty : Nat} {x x' y : Value} (h : clearE P t x m = some (y, m')) (rx : VR ρ x x') (hm : Mem w0 ρ m w) : RunT P w0 ρ m w (Builtin.clear_ #[t] ty #[x']) y m' := by
 unfold clearE at h
 split at h
 ·rename_i e o n c hu
  split at h
  ·cases h
   obtain ⟨a, c', rfl, _⟩ := sliceR rx
   exact ⟨ρ, .tuple #[], w, by cases a <;> simp [Builtin.clear_, run_underlying hu], Ev.refl hm, .tuple _ _ rfl (fun i u v h => by simp at h)⟩
  ·rename_i n
   split at h
   ·rename_i tk off inf hi
    split at h
    ·rename_i z cs ty2 g hz hg
     split at h
     ·rename_i hc
      cases h
      simp only [Bool.and_eq_true, Bool.not_eq_true'] at hc
      obtain ⟨⟨h1, h2⟩, h3, h4⟩ := hc
      have h4 := Nat.le_of_ble_eq_true h4
      cases rx with
      | slice _ _ _ hl hod hcd =>
      obtain ⟨hbk, _, full, hB, hcs, hgr⟩ := hm.obj tk _ hg rfl
      have hne : z.cells.toList ≠ [] := fun e => by rw [e] at h3; cases h3
      have hzc : (Builtin.zeroCells z.cells (n + 1)).toList = litCells z.cells.toList (n + 1) := by
       have := litCells_eq z.cells.toList hne (n + 1)
       have e2 : Builtin.zeroCells z.cells (n + 1) = (litCells z.cells.toList (n + 1)).toArray := by
        rw [this]; simp [Builtin.zeroCells]
       rw [e2]
      have hpl := lit_all h1 (n + 1)
      have hon : oneCells (litCells z.cells.toList (n + 1)) = true := by rw [oneCells_iff] at h2 ⊢; exact lit_all h2 (n + 1)
      have hlen : 0 < (litCells z.cells.toList (n + 1)).length := by
       rw [litCells, List.length_append]
       have : 0 < z.cells.toList.length := List.length_pos_iff.2 hne
       omega
      generalize litCells z.cells.toList (n + 1) = us at *
      have hfull : ρ.off tk + (off + us.length) ≤ full.size := by
       obtain ⟨v, hv, _⟩ := hcs (off + us.length - 1) _ (List.getElem?_eq_getElem (by omega))
       have := (Array.getElem?_eq_some_iff.1 hv).1
       omega
      obtain ⟨hb', bu⟩ := hB.sets us w full (ρ.off tk + off)
      have hst := run_storeCells_cells (P := P) (ρ.blk tk) (ρ.off tk + off) us 0 w (fun j hj => by
       rw [Nat.add_zero, hB.cell, Array.getElem?_eq_getElem (by omega)]; rfl) (fun j hj => hB.frozen (by omega)) (oneCells_all hon)
      simp only [Nat.add_zero] at hst
      have hzv : (zeroValue e).run P w = .ok z w := by simp [zeroValue, typeInfo, hi, hz]
      refine ⟨ρ, .tuple #[], _, ?_, hm.put hg rfl bu fun _ => ⟨_, hb', fun i q hq => ?_, ?_⟩, .tuple _ _ rfl (fun i u v h => by simp at h)⟩
      ·show (Builtin.clear_ #[t] ty #[.slice (some ⟨ρ.blk tk, ρ.off tk + off, none⟩) (n + 1) (ρ.c c)]).run P w = _
       simp [Builtin.clear_, run_underlying hu, hzv, hzc, hst]
      ·rw [ovw_get (by omega)] at hq
       rw [putL_get _ _ _ (by omega)]
       split at hq
       ·rename_i hin
        rw [if_pos (by omega), show ρ.off tk + i - (ρ.off tk + off) = i - off by omega]
        exact ⟨q, hq, .plain (List.all_eq_true.1 hpl q (List.mem_of_getElem? hq))⟩
       ·rename_i hin
        rw [if_neg (by omega)]
        exact hcs i q hq
      ·cases g with
       | none => trivial
       | some x => exact ⟨hgr.1, by rw [putL_size]; exact hgr.2⟩
     ·cases h
    ·cases h
   ·cases h
 ·cases h
/-! ### slices with three indices -/
def boundE : Option Value → Option Nat
 | some (.int _ n) => if 0 ≤ n then some n.toNat else none
 | _ => none
def cut3E (P : Program) (t : Nat) (m : AMem) (x : Value) (lo hi mx : Option Value) : Option Value :=
 match P.underlying t, x with
 | some (.slice e), .slice o len c => match P.info? e, boundE hi, boundE mx with
  | some inf, some h, some mm => (match (match lo with | none => some 0 | l => boundE l), o with
   | _, some ⟨_, _, some _⟩ => none
   | some l, o => (match Nat.ble l h && (Nat.ble h mm && (Nat.ble mm len || Nat.ble mm (availE m x) || (Nat.blt c symB && Nat.ble mm c))) && Nat.blt mm symB with
    | true => some (.slice (match Nat.beq mm l with | true => o | false => o.map (·.add (l * inf.size))) (h - l) (mm - l))
    | false => none)
   | none, _ => none)
  | _, _, _ => none
 | _, _ => none
theorem boundE_ok {o o' : Option Value} {n y : Nat} {code : BoundsCode} (h : boundE o = some n) (r : OR ρ o o') (hy : n ≤ y) : ∃ v, o' = some v ∧ (Instr.sliceBound v y code).run P w = .ok n w := by
 unfold boundE at h
 split at h
 ·rename_i k n'
  cases o' with
  | none => exact r.elim
  | some v =>
   have r : VR ρ (.int k n') v := r
   cases r
   split at h
   ·rename_i h0
    cases h
    exact ⟨_, rfl, by rw [run_sliceBound (P := P) (w := w) k n' y code h0 (by omega)]⟩
   ·cases h
 ·cases h
theorem cut3E_ok {t : Nat} {x x' y : Value} {lo hi mx lo' hi' mx' : Option Value} (h : cut3E P t m x lo hi mx = some y) (rx : VR ρ x x') (r1 : OR ρ lo lo') (r2 : OR ρ hi hi') (r3 : OR ρ mx mx') (hm : Mem w0 ρ m w) :
  RunT P w0 ρ m w (Instr.sliceAt t x' lo' hi' mx') y m := by
 unfold cut3E at h
 split at h
 ·rename_i e o len c hu
  split at h
  ·rename_i inf hh mm hinf hhi hmx
   split at h
   ·cases h
   ·rename_i o _ oo l hlo hne
    split at h
    ·rename_i hc
     simp only [Bool.and_eq_true, Bool.or_eq_true] at hc
     obtain ⟨⟨c1, c2, c3⟩, c4⟩ := hc
     have c1 := Nat.le_of_ble_eq_true c1
     have c2 := Nat.le_of_ble_eq_true c2
     cases h
     have hcap : mm ≤ ρ.c c ∨ x' = x' := .inr rfl
     have hav := availE_ok hm (x := .slice o len c) o len c rfl
     cases rx with
     | empty a c' => exact absurd rfl (hne _ _ _)
     | tail => exact absurd rfl (hne _ _ _)
     | slice _ _ _ hlc hod hcd =>
     have c3 : mm ≤ ρ.c c := by
      rcases c3 with (c3 | c3) | ⟨c3, c5⟩
      ·exact Nat.le_trans (Nat.le_of_ble_eq_true c3) hlc
      ·exact Nat.le_trans (Nat.le_of_ble_eq_true c3) hav
      ·rw [ρ.c_lit c3]; exact Nat.le_of_ble_eq_true c5
     obtain ⟨vm, rfl, qm⟩ := boundE_ok (P := P) (w := w) (y := ρ.c c) (code := .slice3Acap) hmx r3 c3
     obtain ⟨vh, rfl, qh⟩ := boundE_ok (P := P) (w := w) (y := mm) (code := .slice3B) hhi r2 c2
     have hrun : (Instr.sliceAt t (.slice (o.map ρ.a) len (ρ.c c)) lo' (some vh) (some vm)).run P w = .ok (.slice (if mm = l then o.map ρ.a else (o.map ρ.a).map (·.add (l * inf.size))) (hh - l) (mm - l)) w := by
      cases lo with
      | none =>
       cases lo' with
       | some _ => exact r1.elim
       | none =>
        cases hlo
        simp [Instr.sliceAt, Instr.slice, run_underlying hu, Instr.sliceBounds, qm, qh, sizeOf, typeInfo, hinf]
      | some lv =>
       obtain ⟨vl, rfl, ql⟩ := boundE_ok (P := P) (w := w) (y := hh) (code := .slice3C) hlo r1 c1
       simp [Instr.sliceAt, Instr.slice, run_underlying hu, Instr.sliceBounds, qm, qh, ql, sizeOf, typeInfo, hinf]
     refine ⟨ρ, _, w, hrun, Ev.refl hm, ?_⟩
     have c4' : Nat.blt (mm - l) symB = true := Nat.ble_eq_true_of_le (by have := Nat.le_of_ble_eq_true c4; omega)
     have ec := ρ.c_lit c4'
     have v := VR.slice (ρ := ρ) (match Nat.beq mm l with | true => o | false => o.map (·.add (l * inf.size))) (hh - l) (mm - l) (by rw [ec]; omega) (by split; exact hod; exact Rn.oD_map hod _) (.inl c4')
     rw [ec] at v
     by_cases e : mm = l
     ·subst e; simp only [Nat.beq_refl, if_true] at v ⊢; exact v
     ·simp only [beq_ne e, if_neg e] at v ⊢; rw [map_add]; exact v
    ·cases h
   ·cases h
  ·cases h
 ·cases h
/-! ### copy -/
def copyE (P : Program) (t : Nat) (d x : Value) (m : AMem) : Option (Value × AMem) :=
 match P.underlying t, d, x with
 | some (.slice e), .slice o dl _, .slice o2 l2 _ => match P.info? e with
  | some inf => match Nat.min l2 dl with
   | 0 => some (.int .i64 (0 : Nat), m)
   | n + 1 => match o, o2 with
    | some ⟨tk, off, none⟩, some p => (match rowE m p 0 ((n + 1) * inf.size), m.get tk with
     | some us, some (.cells cs ty g) => (match oneCells us && (Nat.blt 0 inf.size && Nat.ble (off + us.length) cs.length) with
      | true => some (.int .i64 ((n + 1 : Nat) : Int), m.put tk (.cells (ovw cs off us) ty g))
      | false => none)
     | _, _ => none)
    | _, _ => none
  | none => none
 | _, _, _ => none
theorem sliceR2 {o : Option Addr} {l c : Nat} {d : Value} (r : VR ρ (.slice o l c) d) : ∃ a c', d = .slice a l c' := by
 obtain ⟨a, c', h, _⟩ := sliceR r; exact ⟨a, c', h⟩
theorem copyE_ok {t u ty : Nat} {d x d' x' y : Value} (h : copyE P t d x m = some (y, m')) (rd : VR ρ d d') (rx : VR ρ x x') (hm : Mem w0 ρ m w) : RunT P w0 ρ m w (Builtin.copy_ #[t, u] ty #[d', x']) y m' := by
 unfold copyE at h
 split at h
 ·rename_i e o dl dc o2 l2 c2 hu
  split at h
  ·rename_i inf hi
   split at h
   ·rename_i hn
    cases h
    obtain ⟨a, c', rfl⟩ := sliceR2 rd
    obtain ⟨b, c2', rfl⟩ := sliceR2 rx
    refine ⟨ρ, .int .i64 (0 : Nat), w, ?_, Ev.refl hm, .int _ _⟩
    have hn : min l2 dl = 0 := hn
    cases a <;> cases b <;> simp [Builtin.copy_, run_underlying hu, Builtin.lenOf, sizeOf, typeInfo, hi, hn, Builtin.firstCells, loadCells, loadCellsFrom, storeCells, goInt]
   ·rename_i n hn
    split at h
    ·rename_i tk off p
     split at h
     ·rename_i us cs ty2 g hus hg
      split at h
      ·rename_i hc
       cases h
       simp only [Bool.and_eq_true] at hc
       obtain ⟨h1, h2, h3⟩ := hc
       have h2 : 0 < inf.size := Nat.le_of_ble_eq_true h2
       have h3 := Nat.le_of_ble_eq_true h3
       cases rd with
       | slice _ _ _ hl hod hcd =>
       cases rx with
       | empty a c => have hn : min 0 dl = n + 1 := hn; omega
       | tail => have hn : min 0 dl = n + 1 := hn; omega
       | slice _ _ _ hl2 hod2 hcd2 =>
       obtain ⟨hbk, _, full, hB, hcs, hgr⟩ := hm.obj tk _ hg rfl
       obtain ⟨vs, r1, r2, r3⟩ := rowE_ok hm.c hus
       have hul : us.length = vs.length := r1.len
       have hlen : 0 < us.length := by rw [hul, r2]; exact Nat.mul_pos (Nat.succ_pos n) h2
       have hfull : ρ.off tk + (off + us.length) ≤ full.size := by
        obtain ⟨v, hv, _⟩ := hcs (off + us.length - 1) _ (List.getElem?_eq_getElem (by omega))
        have := (Array.getElem?_eq_some_iff.1 hv).1
        omega
       obtain ⟨hb', bu⟩ := hB.sets vs w full (ρ.off tk + off)
       have hst := run_storeCells_cells (P := P) (ρ.blk tk) (ρ.off tk + off) vs 0 w (fun j hj => by
        rw [Nat.add_zero, hB.cell, Array.getElem?_eq_getElem (by omega)]; rfl) (fun j hj => hB.frozen (by omega)) (oneCells_all (onesR r1 h1))
       simp only [Nat.add_zero] at hst
       have hfc := run_firstCells_some (P := P) w inf.size (n + 1) (ρ.a p) l2 (ρ.c c2) vs r2 (fun j v hj => by
        have hj2 : j < (n + 1) * inf.size := by rw [← r2]; exact (List.getElem?_eq_some_iff.1 hj).1
        have := r3 j hj2
        rw [Nat.zero_add] at this
        rw [this]; exact hj)
       have hn : min l2 dl = n + 1 := hn
       refine ⟨ρ, .int .i64 ((n + 1 : Nat) : Int), _, ?_, hm.put hg rfl bu fun _ => ⟨_, hb', fun i q hq => ?_, ?_⟩, .int _ _⟩
       ·show (Builtin.copy_ #[t, u] ty #[.slice (some ⟨ρ.blk tk, ρ.off tk + off, none⟩) dl (ρ.c dc), .slice (some (ρ.a p)) l2 (ρ.c c2)]).run P w = _
        simp [Builtin.copy_, run_underlying hu, Builtin.lenOf, sizeOf, typeInfo, hi, hn, hfc, hst, goInt]
       ·rw [ovw_get (by omega)] at hq
        rw [putL_get _ _ _ (by omega)]
        split at hq
        ·rename_i hin
         obtain ⟨v, hv, rv⟩ := r1.get hq
         refine ⟨v, ?_, rv⟩
         rw [if_pos (by omega), show ρ.off tk + i - (ρ.off tk + off) = i - off by omega]
         exact hv
        ·rename_i hin
         rw [if_neg (by omega)]
         exact hcs i q hq
       ·cases g with
        | none => trivial
        | some x => exact ⟨hgr.1, by rw [putL_size]; exact hgr.2⟩
      ·cases h
     ·cases h
    ·cases h
  ·cases h
 ·cases h
end
end Go.V
