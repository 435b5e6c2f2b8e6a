/- A part of the proof: plain forms of functions and laws about them. -/
import Derived.Test.YtkneoodgoadpaabGreatDoorHnilBl
import Derived.Test.YtkneoodgoadpaabGreatDoorProg
import Derived.Shelf.SlIterI.Collect
import Derived.KernelRfl
namespace Go.Proofs.YtkneoodgoadpaabGreatDoor
open Go Go.V Go.Proofs
open Go.RowKit (Below)
def keysRen (g mt vt : Nat) : Go.Shelf.Ren := ⟨fun | 10 => g | 11 => 75 | x => x, fun | 3 => vt | 23 => mt | 26 => 3 | 33 => 52 | 24 => 26 | 28 => 101 | x => x, fun x => x⟩
theorem lay10b : SlLaysZI.n10 Tryz.prog (keysRen 65 62 4) where
  mixed := by kernel_rfl
  f10 := ⟨"maps.Keys[map[int]bool,int,bool]$1", by decide, Tryz.func65.trans (congrArg some (by kernel_rfl))⟩
  t0 := Tryz.underlying0
  a0 := Tryz.isAgg0
  z0 := Tryz.sizeOf0
  v0 := Tryz.zeroValue0
  t4 := Tryz.underlying4
  a4 := Tryz.isAgg4
  z4 := Tryz.sizeOf4
  v4 := Tryz.zeroValue4
  t23 := Tryz.underlying62
  a23 := Tryz.isAgg62
  z23 := Tryz.sizeOf62
  v23 := Tryz.zeroValue62
  t26 := Tryz.underlying3
  a26 := Tryz.isAgg3
  z26 := Tryz.sizeOf3
  v26 := Tryz.zeroValue3
  t33 := Tryz.underlying52
  a33 := Tryz.isAgg52
  z33 := Tryz.sizeOf52
  v33 := Tryz.zeroValue52
theorem lay11b : SlLaysZI.n11 Tryz.prog (keysRen 65 62 4) where
  mixed := by kernel_rfl
  f11 := ⟨"slices.AppendSeq[[]int,int]", by decide, Tryz.func75.trans (congrArg some (by kernel_rfl))⟩
  t0 := Tryz.underlying0
  a0 := Tryz.isAgg0
  z0 := Tryz.sizeOf0
  v0 := Tryz.zeroValue0
  t24 := Tryz.underlying26
  a24 := Tryz.isAgg26
  z24 := Tryz.sizeOf26
  v24 := Tryz.zeroValue26
  t26 := Tryz.underlying3
  a26 := Tryz.isAgg3
  z26 := Tryz.sizeOf3
  v26 := Tryz.zeroValue3
  t28 := Tryz.underlying101
  a28 := Tryz.isAgg101
  z28 := Tryz.sizeOf101
  v28 := Tryz.zeroValue101
  i26 := by kernel_rfl
theorem lay10i : SlLaysZI.n10 Tryz.prog (keysRen 66 60 3) where
  mixed := by kernel_rfl
  f10 := ⟨"maps.Keys[map[int]int,int,int]$1", by decide, Tryz.func66.trans (congrArg some (by kernel_rfl))⟩
  t0 := Tryz.underlying0
  a0 := Tryz.isAgg0
  z0 := Tryz.sizeOf0
  v0 := Tryz.zeroValue0
  t4 := Tryz.underlying4
  a4 := Tryz.isAgg4
  z4 := Tryz.sizeOf4
  v4 := Tryz.zeroValue4
  t23 := Tryz.underlying60
  a23 := Tryz.isAgg60
  z23 := Tryz.sizeOf60
  v23 := Tryz.zeroValue60
  t26 := Tryz.underlying3
  a26 := Tryz.isAgg3
  z26 := Tryz.sizeOf3
  v26 := Tryz.zeroValue3
  t33 := Tryz.underlying52
  a33 := Tryz.isAgg52
  z33 := Tryz.sizeOf52
  v33 := Tryz.zeroValue52
theorem lay11i : SlLaysZI.n11 Tryz.prog (keysRen 66 60 3) where
  mixed := by kernel_rfl
  f11 := ⟨"slices.AppendSeq[[]int,int]", by decide, Tryz.func75.trans (congrArg some (by kernel_rfl))⟩
  t0 := Tryz.underlying0
  a0 := Tryz.isAgg0
  z0 := Tryz.sizeOf0
  v0 := Tryz.zeroValue0
  t24 := Tryz.underlying26
  a24 := Tryz.isAgg26
  z24 := Tryz.sizeOf26
  v24 := Tryz.zeroValue26
  t26 := Tryz.underlying3
  a26 := Tryz.isAgg3
  z26 := Tryz.sizeOf3
  v26 := Tryz.zeroValue3
  t28 := Tryz.underlying101
  a28 := Tryz.isAgg101
  z28 := Tryz.sizeOf101
  v28 := Tryz.zeroValue101
  i26 := by kernel_rfl
end Go.Proofs.YtkneoodgoadpaabGreatDoor

namespace Go.Proofs.YtkneoodgoadpaabGreatDoor
open Go Go.V Go.Proofs
open Go.RowKit (Below)
def allF : Fence := { fn := fun _ => True }
def anyR (_ : Value) : Option (DataW Nat × List MemPlace) := some (.nil, [])
structure LayG (g mt vt : Nat) : Prop where
  k : SlLaysZI.n10 Tryz.prog (keysRen g mt vt)
  a : SlLaysZI.n11 Tryz.prog (keysRen g mt vt)
  e : Enters Tryz.prog g
theorem layB : LayG 65 62 4 := ⟨lay10b, lay11b, Tryz.call65⟩
theorem layI : LayG 66 60 3 := ⟨lay10i, lay11i, Tryz.call66⟩
section
variable {g mt vt : Nat} (L : LayG g mt vt)
include L
theorem seq_gen (w : World) {Bm b : Nat} {es : Array MapEntry} {clock : Nat} (hm : w.cell? ⟨Bm, 0, none⟩ = some (.map (some b))) (hb : w.heap[b]? = some (.map es clock)) (hf : Go.WideElems.Fit Tryz.prog 3 anyR es clock) (hs : es.size ≤ 1)
    (D0 : DataW Nat) (hD : D0 = .map ((es.toList.map (Go.WideElems.rg Tryz.prog 3 anyR)).foldr DataW.insert [])) (hN : Maps.size D0 ≤ 1) :
    Calls Tryz.prog 75 #[.slice none 0 0, .func (.func g) #[] #[.pointer (some ⟨Bm, 0, none⟩)]] w fun e w' => ∃ (v : Value) (ss : List Int), e = .returned v ∧ ss.Perm (intKeys D0) ∧ w'.ownsRow w.heap.size 3 1 v ss.length (ss.map encZ) ∧ (v = .slice none 0 0 ↔ ss = []) ∧ Below w.heap.size w w' := by
  have hown : w.ownsMap Tryz.prog 3 anyR b 1 D0 := ⟨es, clock, hb, hf, hs, hD⟩
  have LL := AnyZI.keys_gives (H := Nat) L.k allF 4 trivial rfl (by omega) Bm b 1 D0 w (block_lt_of_cell hm) hm hown
  exact (AnyZI.appendSeq_in L.a allF 5 trivial rfl (by omega) g _ trivial L.e _ (Maps.size D0) (by simp [maxLen]; omega) (by omega) w LL).calls (fun k d h => by cases h)
theorem seq0 (w : World) {Bm b : Nat} {clock : Nat} (hm : w.cell? ⟨Bm, 0, none⟩ = some (.map (some b))) (hb : w.heap[b]? = some (.map #[] clock)) :
    Calls Tryz.prog 75 #[.slice none 0 0, .func (.func g) #[] #[.pointer (some ⟨Bm, 0, none⟩)]] w fun e w' => e = .returned (.slice none 0 0) ∧ Below w.heap.size w w' := by
  refine (seq_gen L w hm hb ⟨by simp, ?_, fun x hx => by simp at hx⟩ (by simp) (.map []) rfl (by decide)).mono ?_
  · exact ⟨fun x h => by simp at h, by simp, by simp⟩
  · rintro e w' ⟨v, ss, rfl, hp, _, hv, x⟩
    have : ss = [] := List.perm_nil.1 hp
    rw [hv.2 this]
    exact ⟨rfl, x⟩
theorem seq1 (w : World) {Bm b : Nat} {clock : Nat} {n : Int} {v : Value} {born : Nat} (hwf : (Lit.int .i64 n).wf = true) (hborn : born < clock) (hm : w.cell? ⟨Bm, 0, none⟩ = some (.map (some b))) (hb : w.heap[b]? = some (.map #[⟨.int .i64 n, v, born⟩] clock)) :
    Calls Tryz.prog 75 #[.slice none 0 0, .func (.func g) #[] #[.pointer (some ⟨Bm, 0, none⟩)]] w fun e w' => ∃ gb cap cur, e = .returned (.slice (some ⟨gb, 0, none⟩) 1 cap) ∧ w.heap.size ≤ gb ∧ Blk w' gb cur 3 ∧ 1 ≤ cap ∧ cap ≤ maxLen ∧ cur.size = cap ∧ cur[0]? = some (.int .i64 n) ∧ Below w.heap.size w w' := by
  have hk : keyOf Tryz.prog 3 (.int .i64 n) = some (.int .i64 n) := Go.Maps.keyOf_int_mk Tryz.underlying3 hwf
  have hrd : Go.WideElems.rd Tryz.prog 3 anyR ⟨.int .i64 n, v, born⟩ = some (.int .i64 n, .nil) := by
    unfold Go.WideElems.rd; simp [hk, anyR]
  refine (seq_gen L w hm hb ⟨by simp [maxLen], ?_, fun x hx => ?_⟩ (by simp) (.map [(.int .i64 n, .nil)]) (by simp [Go.WideElems.rg, hrd, DataW.insert]) (by simp [Maps.size])).mono ?_
  · exact ⟨fun x h => by simp at h; rw [h]; exact hborn, by simp, by simp⟩
  · have : x = ⟨.int .i64 n, v, born⟩ := by simpa using hx
    rw [this]; exact ⟨_, hrd⟩
  · rintro e w' ⟨v, ss, rfl, hp, ⟨_, ho⟩, hv, x⟩
    have hss : ss = [n] := List.perm_singleton.1 hp
    subst hss
    rcases ho with ⟨_, h⟩ | ⟨gb, cap, cur, rfl, hg, hB, h1, h2, h3, h4⟩
    · simp at h
    · refine ⟨gb, cap, cur, rfl, hg, hB, h1, h2, by simpa using h3, ?_, x⟩
      have h7 := congrArg (·[0]?) h4
      simp only [List.length_singleton, Nat.one_mul] at h7
      rw [List.getElem?_take_of_lt (by omega), Array.getElem?_toList] at h7
      exact h7
end
end Go.Proofs.YtkneoodgoadpaabGreatDoor

namespace Go.Proofs.YtkneoodgoadpaabGreatDoor
open Go Go.V Go.Proofs
open Go.RowKit (Below)
def knM (r : Nat) (m : AMem) : Option (Value × AMem) :=
  match m.get r with
  | some (.amap [] _ _) => some (.slice none 0 0, m)
  | some (.amap [(.int .i64 n, _)] [b] c) => bif (Lit.int .i64 n).wf && Nat.blt b c then some (.slice (some ⟨m.next, 0, none⟩) 1 (symC (symI + m.caps)), m.fresh none (.cells [.int .i64 n] 3 (some (symI + m.caps, 1)))) else none
  | _ => none
def knP (p : Addr) (m : AMem) : Option (Value × AMem) :=
  bif Nat.beq p.off 0 then (match m.get p.block with
    | some (.cells _ _ none) => (match cellE m p with | some (.map (some r)) => knM r m | _ => none)
    | _ => none) else none
def knH (f : FuncId) (us : List Value) (m : AMem) : Option (Value × AMem) :=
  bif Nat.beq f 75 then (match us with
    | [.slice none l c, .func (.func k) xs ys] => bif Nat.beq l 0 && (Nat.beq c 0 && ((Nat.beq k 65 || Nat.beq k 66) && Nat.beq xs.size 0)) then (match ys.toList with
        | [.pointer (some p)] => knP p m
        | _ => none) else none
    | _ => none) else none
section
variable {ρ : Rn} {m m' : AMem} {w w' w0 : World}
theorem Ev.ext (hm : Mem w0 ρ m w) (x : Ext w w') : Ev w0 ρ m w ρ m w' :=
  ⟨Rn.Le.refl ρ, ⟨Below.trans hm.x (x.mono hm.x.size), hm.dom, hm.cdom, hm.got, fun t o hg hl => by
    obtain ⟨h1, h2, h3⟩ := hm.obj t o hg hl
    exact ⟨h1, Nat.lt_of_lt_of_le h2 x.size, h3.mono (Rn.Le.refl ρ) (hm.got t o hg hl) fun _ => x.block _ h2⟩, hm.apart⟩, Nat.le_refl _, [], rfl,
   fun t _ _ o hg hl => ⟨⟨o, hg, hl⟩, x.block _ (hm.obj t o hg hl).2.1⟩⟩
theorem cond_some {α : Type} {b : Bool} {x : Option α} {y : α} (h : (bif b then x else none) = some y) : b = true ∧ x = some y := by
  cases b
  · cases h
  · exact ⟨rfl, h⟩
theorem knM_ok {g0 mt vt : Nat} (L : LayG g0 mt vt) {r Bm : Nat} {u : Value} (h : knM r m = some (u, m')) (hm : Mem w0 ρ m w) (hc : w.cell? ⟨Bm, 0, none⟩ = some (.map (some (ρ.blk r)))) :
    Calls Tryz.prog 75 #[.slice none 0 0, .func (.func g0) #[] #[.pointer (some ⟨Bm, 0, none⟩)]] w fun en w' => ∃ ρ' v, Ev w0 ρ m w ρ' m' w' ∧ VR ρ' u v ∧ en = .returned v := by
  unfold knM at h
  split at h
  · rename_i bs c hg
    cases h
    obtain ⟨_, _, ents, h1, h2, _, _⟩ := hm.obj r _ hg rfl
    have he : ents = #[] := by simpa using h2
    subst he
    refine (seq0 L w hc h1).mono ?_
    rintro e w' ⟨rfl, x⟩
    refine ⟨ρ, _, Ev.ext hm x, ?_, rfl⟩
    have := VR.slice (ρ := ρ) none 0 0 (Nat.zero_le _) ρ.oD_none (.inl rfl)
    rw [ρ.c_lit rfl] at this; exact this
  · rename_i n u b c hg
    replace h := cond_some h
    obtain ⟨hb, h⟩ := h
    simp only [Bool.and_eq_true] at hb
    obtain ⟨hwf, hlt⟩ := hb
    have hlt : b < c := Nat.le_of_ble_eq_true hlt
    cases h
    obtain ⟨_, _, ents, h1, h2, _, h4⟩ := hm.obj r _ hg rfl
    obtain ⟨en, rfl⟩ : ∃ x : MapEntry, ents = #[x] := by
      obtain ⟨l⟩ := ents
      match l, h2 with
      | [x], _ => exact ⟨x, rfl⟩
    obtain ⟨ky, vl, bo⟩ := en
    simp only [List.map_cons, List.map_nil, List.cons.injEq, and_true] at h2 h4
    subst h2; subst h4
    refine (seq1 L w hwf hlt hc h1).mono ?_
    rintro e w' ⟨g, cap, cur, rfl, hbg, hB, g1, _, g3, g4, hx⟩
    refine ⟨ρ.more m.next g 0 (symI + m.caps) cap, _, hm.fresh (kill := none) (fun t0 e => by cases e) (Below.trans hm.x (hx.mono hm.x.size)) hx.size (fun k hk2 _ => hx.block k hk2) hB.lt (.inl hbg) rfl fun le => ⟨cur, by simpa [Rn.more] using hB.f, fun i u hu => ?_, .inr rfl, by simp [Rn.more, g3]⟩, ?_, rfl⟩
    · have hi : i = 0 := by have := (List.getElem?_eq_some_iff.1 hu).1; simpa using this
      subst hi
      cases hu
      exact ⟨_, by simpa [Rn.more] using g4, .int _ _⟩
    · have e1 : (ρ.more m.next g 0 (symI + m.caps) cap).c (symC (symI + m.caps)) = cap := by rw [symC_c (by omega)]; simp [Rn.more]
      have := VR.slice (ρ := ρ.more m.next g 0 (symI + m.caps) cap) (some ⟨m.next, 0, none⟩) 1 (symC (symI + m.caps)) (by rw [e1]; exact g1) (fun p hp => by cases hp; exact .inr rfl) (symC_d (.inr rfl))
      rw [e1] at this
      simpa [Rn.more_a] using this
  · cases h
theorem vr_none {l c : Nat} {v : Value} (hl : l = 0) (hc : c = 0) (r : VR ρ (.slice none l c) v) : v = .slice none 0 0 := by
  subst hl; subst hc
  generalize hu : Value.slice none 0 0 = u at r
  cases r <;> cases hu
  rw [ρ.c_lit rfl]; rfl
theorem vr_func {f : Fn} {xs ys : Array Value} {v : Value} (r : VR ρ (.func f xs ys) v) : ∃ xs' ys', v = .func f xs' ys' ∧ xs.size = xs'.size ∧ LR ρ ys.toList ys'.toList := by
  cases r with
  | func _ _ _ xs' ys' h1 h2 h3 h4 => exact ⟨xs', ys', rfl, h1, ⟨by simpa using h2, fun i u v a b => h4 i u v (by simpa using a) (by simpa using b)⟩⟩
theorem vr_ptr {p : Addr} {v : Value} (r : VR ρ (.pointer (some p)) v) : v = .pointer (some (ρ.a p)) := by cases r; rfl
theorem vr_map {r : Nat} {v : Value} (h : VR ρ (.map (some r)) v) : v = .map (some (ρ.blk r)) := by cases h; rfl
theorem knH_ok : CallOk Tryz.prog w0 knH := by
  intro f us m u m' h
  unfold knH at h
  replace h := cond_some h
  obtain ⟨hf, h⟩ := h
  have hf := Nat.eq_of_beq_eq_true hf
  subst hf
  refine ⟨Tryz.call75, fun ρ vs w r hm => ?_⟩
  split at h
  · rename_i l c k xs ys
    replace h := cond_some h
    obtain ⟨hb, h⟩ := h
    obtain ⟨b1, hb⟩ := Bool.and_eq_true_iff.1 hb
    obtain ⟨b2, hb⟩ := Bool.and_eq_true_iff.1 hb
    obtain ⟨b3, b4⟩ := Bool.and_eq_true_iff.1 hb
    have b1 := Nat.eq_of_beq_eq_true b1
    have b2 := Nat.eq_of_beq_eq_true b2
    have hL : ∃ mt vt, LayG k mt vt := by
      rcases Bool.or_eq_true_iff.1 b3 with b3 | b3
      · rw [Nat.eq_of_beq_eq_true b3]; exact ⟨_, _, layB⟩
      · rw [Nat.eq_of_beq_eq_true b3]; exact ⟨_, _, layI⟩
    obtain ⟨mt, vt, L⟩ := hL
    have b4 := Nat.eq_of_beq_eq_true b4
    obtain ⟨v1, v2, rfl, r1, r2⟩ := r.two
    have e1 := vr_none b1 b2 r1
    subst e1
    obtain ⟨xs', ys', rfl, hx, ry⟩ := vr_func r2
    have hx : xs' = #[] := by apply Array.eq_empty_of_size_eq_zero; omega
    subst hx
    split at h
    · rename_i p hy
      rw [hy] at ry
      obtain ⟨y, hy2, ry⟩ := ry.one
      have e3 := vr_ptr ry
      subst e3
      have : ys' = #[.pointer (some (ρ.a p))] := by apply Array.ext'; simpa using hy2
      subst this
      unfold knP at h
      replace h := cond_some h
      obtain ⟨hp, h⟩ := h
      have hp := Nat.eq_of_beq_eq_true hp
      split at h
      · rename_i cs ty hg
        split at h
        · rename_i r hcell
          obtain ⟨v, hv, rv⟩ := cellE_ok hm.c hcell
          have e4 := vr_map rv
          subst e4
          obtain ⟨_, _, full, _, _, ho⟩ := hm.obj _ _ hg rfl
          have hsp : p.spot = none := by
            unfold cellE at hcell
            split at hcell
            · cases hcell
            · assumption
          have ea : ρ.a p = ⟨ρ.blk p.block, 0, none⟩ := by
            unfold Rn.a; rw [hp, hsp, show ρ.off p.block = 0 from ho]
          rw [ea] at hv ⊢
          exact knM_ok L h hm hv
        · cases h
      · cases h
    · cases h
  · cases h
end
end Go.Proofs.YtkneoodgoadpaabGreatDoor
