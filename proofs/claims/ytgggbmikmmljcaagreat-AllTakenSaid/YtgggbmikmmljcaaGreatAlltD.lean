/- A part of the proof: plain forms of functions and laws about them. -/
import Derived.Test.YtgggbmikmmljcaaGreatAlltC
import Derived.Deep.Upon
namespace Go.Proofs.YtgggbmikmmljcaaGreat
open Go Go.V Go.Proofs
section
variable {k f : Nat} {S : CS}
theorem no0 {a : Int} {c : Prop} [Decidable c] : a = a + (if c then 0 else 0) := by split <;> omega
theorem Inv.thB (_ : Inv k f S) (y x : Int) : (S.th y).owner = (S.th y).owner ∧ (S.th y).on = (S.th y).on ∧ (S.th y).swept = (S.th y).swept ∧ (S.th y).out = (S.th y).out + (if y = x then 0 else 0) := ⟨rfl, rfl, rfl, no0⟩
theorem Inv.sendZ (h : Inv k f S) {S' : CS} {m : Msg} (hx : S.isT m.ent) (h1 : S.isS m.frm) (h2 : S.isS m.to) (hn : m.n = 0) (e1 : S'.clocks = S.clocks) (e2 : S'.things = S.things) (e3 : S'.prox = S.prox) (e4 : S'.fly = S.fly ++ [m]) (e5 : S'.calls = S.calls) (e6 : S'.waits = S.waits) :
    Inv k (f + 1) S' ∧ ∀ t, S'.dif t = S.dif t := by
  have hth : ∀ y, S'.th y = S.th y := fun y => by simp [CS.th, e2]
  have r := h.move (S' := S') (f' := f + 1) m.ent 0 0 hx (by rw [e1]) (by rw [e2]) e5 (fun q => by rw [e6]; exact h.wt q) (by rw [e4]; simp; exact h.fl) (fun y _ => by rw [hth]; exact h.thB y _) (by rw [Int.add_zero]; exact (h.ou _ hx).1) (fun _ => rfl)
    (fun q => by rw [e3]; exact h.px q) (fun q hq => by rw [e3] at hq; exact h.pxT q hq) (fun m' hm => by
      rw [e4, List.mem_append] at hm
      rcases hm with hm | hm
      · exact h.fy m' hm
      · simp only [List.mem_singleton] at hm; subst hm; exact ⟨hx, h1, h2, by omega, .inl hn⟩) (fun t => by
      rw [e3, e4, flw_app, flw_one, hn]; split <;> split <;> omega) (by have := h.df m.ent; omega)
  exact ⟨r.1, fun t => by rw [r.2 t]; split <;> omega⟩
theorem Inv.half (h : Inv k f S) {q : Int × Int} {to : Int} (h1 : S.isS q.1) (h2 : S.isT q.2) (hto : S.isS to) : Inv k (f + 1) (S.half q to) ∧ ∀ t, (S.half q to).dif t = S.dif t := by
  have hp := h.px q
  have r := h.move (S' := S.half q to) (f' := f + 1) q.2 0 0 h2 rfl rfl rfl h.wt (by simp [CS.half, CS.send]; exact h.fl) (fun y _ => h.thB y _) (by rw [Int.add_zero]; exact (h.ou _ h2).1) (fun _ => rfl)
    (fun p => by show 0 ≤ upd _ _ _ _; unfold upd; split
                 · omega
                 · exact h.px p) (fun p hp => by
      change upd _ _ _ _ ≠ 0 at hp
      unfold upd at hp
      split at hp
      · rename_i e; subst e; exact ⟨h1, h2⟩
      · exact h.pxT p hp) (fun m hm => by
      simp only [CS.half, CS.send, List.mem_append, List.mem_singleton] at hm
      rcases hm with hm | rfl
      · exact h.fy m hm
      · refine ⟨h2, h1, hto, by show 0 ≤ S.prox q / 2; omega, .inr ?_⟩
        show isK (if _ then _ else _) _ = true ∨ isK (if _ then _ else _) _ = true ∨ isK (if _ then _ else _) _ = true
        split
        · exact .inr (.inr (by unfold isK; exact beq_self_eq_true _))
        · exact .inr (.inl (by unfold isK; exact beq_self_eq_true _))) (fun t => by
      show Go.Proofs.YtgggbmikmmljcaaGreat.px (upd _ _ _) _ t + Go.Proofs.YtgggbmikmmljcaaGreat.flw (S.fly ++ [_]) t = _
      rw [px_upd, flw_app, flw_one]
      have h11 := h1.1; have h12 := h1.2
      simp only
      by_cases e : q.2 = t
      · rw [if_pos ⟨e, h11, h12⟩, if_pos e, if_pos e.symm]; omega
      · rw [if_neg fun x => e x.1, if_neg e, if_neg (Ne.symm e)]; omega) (by have := h.df q.2; omega)
  exact ⟨r.1, fun t => by rw [r.2 t]; split <;> omega⟩
theorem Inv.letM (h : Inv k f S) {q : Int × Int} (h1 : S.isS q.1) (h2 : S.isT q.2) : Inv k (f + 1) (S.letM q) ∧ ∀ t, (S.letM q).dif t = S.dif t := by
  have hp := h.px q
  have r := h.move (S' := S.letM q) (f' := f + 1) q.2 0 0 h2 rfl rfl rfl (fun p => by
      show (upd S.waits q [] p).length ≤ k ∧ ∀ y ∈ upd S.waits q [] p, _
      unfold upd; split
      · exact ⟨Nat.zero_le _, by simp⟩
      · exact h.wt p) (by simp [CS.letM]; exact h.fl) (fun y _ => h.thB y _) (by rw [Int.add_zero]; exact (h.ou _ h2).1) (fun _ => rfl)
    (fun p => by show 0 ≤ upd _ _ _ _; unfold upd; split
                 · omega
                 · exact h.px p) (fun p hp => by
      change upd _ _ _ _ ≠ 0 at hp
      unfold upd at hp
      split at hp
      · exact absurd rfl hp
      · exact h.pxT p hp) (fun m hm => by
      simp only [CS.letM, List.mem_append, List.mem_singleton] at hm
      rcases hm with hm | rfl
      · exact h.fy m hm
      · exact ⟨h2, h1, h.own _ h2, hp, .inr (.inr (.inr (by unfold isK; exact beq_self_eq_true _)))⟩) (fun t => by
      show Go.Proofs.YtgggbmikmmljcaaGreat.px (upd _ _ _) _ t + Go.Proofs.YtgggbmikmmljcaaGreat.flw (S.fly ++ [_]) t = _
      rw [px_upd, flw_app, flw_one]
      have h11 := h1.1; have h12 := h1.2
      simp only
      by_cases e : q.2 = t
      · rw [if_pos ⟨e, h11, h12⟩, if_pos e, if_pos e.symm]; omega
      · rw [if_neg fun x => e x.1, if_neg e, if_neg (Ne.symm e)]; omega) (by have := h.df q.2; omega)
  exact ⟨r.1, fun t => by rw [r.2 t]; split <;> omega⟩
theorem Inv.take (h : Inv k f S) {i : Nat} {m : Msg} (hm : S.fly[i]? = some m) : Inv k f (S.take i) ∧ ∀ t, (S.take i).dif t = S.dif t + (if t = m.ent then m.n else 0) := by
  obtain ⟨hx, h1, h2, hn, -⟩ := h.fy m (List.mem_of_getElem? hm)
  have r := h.move (S' := S.take i) (f' := f) m.ent (-m.n) 0 hx rfl rfl rfl h.wt (Nat.le_trans (S.take_len i) h.fl) (fun y _ => h.thB y _) (by rw [Int.add_zero]; exact (h.ou _ hx).1) (fun _ => rfl) h.px h.pxT (fun m' hm' => h.fy m' (List.mem_of_mem_eraseIdx hm')) (fun t => by
      show Go.Proofs.YtgggbmikmmljcaaGreat.px S.prox _ t + Go.Proofs.YtgggbmikmmljcaaGreat.flw (S.fly.eraseIdx i) t = _
      rw [flw_erase hm]
      by_cases e : m.ent = t
      · rw [if_pos e, if_pos e.symm]; omega
      · rw [if_neg e, if_neg (Ne.symm e)]; omega) (by have := h.df m.ent; omega)
  exact ⟨r.1, fun t => by rw [r.2 t]; split <;> omega⟩
theorem Inv.pay (h : Inv k f S) {q : Int × Int} {n : Int} (h1 : S.isS q.1) (h2 : S.isT q.2) (hn : 0 ≤ n) (hd : n ≤ S.dif q.2) : Inv k f (S.pay q n) ∧ ∀ t, (S.pay q n).dif t = S.dif t - (if t = q.2 then n else 0) := by
  have hp := h.px q
  have r := h.move (S' := S.pay q n) (f' := f) q.2 n 0 h2 rfl rfl rfl h.wt h.fl (fun y _ => h.thB y _) (by rw [Int.add_zero]; exact (h.ou _ h2).1) (fun _ => rfl)
    (fun p => by show 0 ≤ upd _ _ _ _; unfold upd; split
                 · omega
                 · exact h.px p) (fun p hp => by
      change upd _ _ _ _ ≠ 0 at hp
      unfold upd at hp
      split at hp
      · rename_i e; subst e; exact ⟨h1, h2⟩
      · exact h.pxT p hp) h.fy (fun t => by
      show Go.Proofs.YtgggbmikmmljcaaGreat.px (upd _ _ _) _ t + Go.Proofs.YtgggbmikmmljcaaGreat.flw S.fly t = _
      rw [px_upd]
      have h11 := h1.1; have h12 := h1.2
      by_cases e : q.2 = t
      · rw [if_pos ⟨e, h11, h12⟩, if_pos e.symm]; omega
      · rw [if_neg fun x => e x.1, if_neg (Ne.symm e)]; omega) (by omega)
  exact ⟨r.1, fun t => by rw [r.2 t]; split <;> omega⟩
theorem Inv.goneM (h : Inv k f S) {q : Int × Int} (h1 : S.isS q.1) (h2 : S.isT q.2) : Inv k f (S.goneM q) ∧ ∀ t, (S.goneM q).dif t = S.dif t + (if t = q.2 then S.prox q else 0) := by
  have hp := h.px q
  have r := h.move (S' := S.goneM q) (f' := f) q.2 (-S.prox q) 0 h2 rfl rfl rfl (fun p => by
      show (upd S.waits q [] p).length ≤ k ∧ ∀ y ∈ upd S.waits q [] p, _
      unfold upd; split
      · exact ⟨Nat.zero_le _, by simp⟩
      · exact h.wt p) h.fl (fun y _ => h.thB y _) (by rw [Int.add_zero]; exact (h.ou _ h2).1) (fun _ => rfl)
    (fun p => by show 0 ≤ upd _ _ _ _; unfold upd; split
                 · omega
                 · exact h.px p) (fun p hp => by
      change upd _ _ _ _ ≠ 0 at hp
      unfold upd at hp
      split at hp
      · exact absurd rfl hp
      · exact h.pxT p hp) h.fy (fun t => by
      show Go.Proofs.YtgggbmikmmljcaaGreat.px (upd _ _ _) _ t + Go.Proofs.YtgggbmikmmljcaaGreat.flw S.fly t = _
      rw [px_upd]
      have h11 := h1.1; have h12 := h1.2
      by_cases e : q.2 = t
      · rw [if_pos ⟨e, h11, h12⟩, if_pos e.symm]; omega
      · rw [if_neg fun x => e x.1, if_neg (Ne.symm e)]; omega) (by have := h.df q.2; omega)
  exact ⟨r.1, fun t => by rw [r.2 t]; split <;> omega⟩
theorem Inv.setTh (h : Inv k f S) {x : Int} (hx : S.isT x) {t' : Th} (h1 : t'.owner = (S.th x).owner) (h2 : t'.on = (S.th x).on) (h3 : t'.swept = (S.th x).swept) {o : Int} (h4 : t'.out = (S.th x).out + o) (ho : (S.th x).out + o ≤ 65536 * k) (hs : (S.th x).swept = true → o = 0) (hd : 0 ≤ S.dif x + o) :
    Inv k f (S.setTh (x - 1).toNat t') ∧ ∀ t, (S.setTh (x - 1).toNat t').dif t = S.dif t + (if t = x then o else 0) := by
  have r := h.move (S' := S.setTh (x - 1).toNat t') (f' := f) x 0 o hx rfl (by simp [CS.setTh]) rfl h.wt h.fl (fun y hy => by
      have h1' := hx.1; have h2' := hx.2; have h3' := hy.1
      rw [CS.th_setTh]
      by_cases e : y = x
      · subst e; rw [if_pos ⟨rfl, by omega⟩, if_pos rfl]; exact ⟨h1, h2, h3, h4⟩
      · rw [if_neg (by omega), if_neg e]; exact ⟨rfl, rfl, rfl, (Int.add_zero _).symm⟩) ho hs h.px h.pxT h.fy (fun t => by
        show Go.Proofs.YtgggbmikmmljcaaGreat.px S.prox _ t + Go.Proofs.YtgggbmikmmljcaaGreat.flw S.fly t = _
        split <;> omega) (by omega)
  exact ⟨r.1, fun t => by rw [r.2 t]; split <;> omega⟩
theorem Inv.give (h : Inv k f S) {to : Int} {kind : ByteArray} {x : Int} (hx : S.isT x) (hto : S.isS to) (hs : (S.th x).swept = false) (hk : isK kind kGive = true ∨ isK kind kPass = true) : Inv (k + 1) (f + 1) (S.give to kind x (S.th x)) ∧ ∀ t, (S.give to kind x (S.th x)).dif t = S.dif t := by
  have hh := h.mono (Nat.le_succ k) (Nat.le_refl f)
  have r := hh.move (S' := S.give to kind x (S.th x)) (f' := f + 1) x 65536 65536 hx rfl (by simp [CS.give, CS.send, CS.setTh]) rfl hh.wt (by simp [CS.give, CS.send, CS.setTh]; exact h.fl) (fun y hy => by
      have h1' := hx.1; have h2' := hx.2; have h3' := hy.1
      show ((S.setTh (x - 1).toNat _).th y).owner = _ ∧ ((S.setTh (x - 1).toNat _).th y).on = _ ∧ ((S.setTh (x - 1).toNat _).th y).swept = _ ∧ ((S.setTh (x - 1).toNat _).th y).out = _
      rw [CS.th_setTh]
      by_cases e : y = x
      · subst e; rw [if_pos ⟨rfl, by omega⟩, if_pos rfl]; exact ⟨rfl, rfl, rfl, rfl⟩
      · rw [if_neg (by omega), if_neg e]; exact ⟨rfl, rfl, rfl, (Int.add_zero _).symm⟩) (by have := (h.ou x hx).1; omega) (fun e => by rw [hs] at e; cases e) h.px h.pxT (fun m hm => by
        simp only [CS.give, CS.send, CS.setTh, List.mem_append, List.mem_singleton] at hm
        rcases hm with hm | rfl
        · exact h.fy m hm
        · refine ⟨hx, h.own x hx, hto, by show (0 : Int) ≤ 65536; decide, .inr ?_⟩
          rcases hk with hk | hk
          · exact .inl hk
          · exact .inr (.inl hk)) (fun t => by
        show Go.Proofs.YtgggbmikmmljcaaGreat.px S.prox _ t + Go.Proofs.YtgggbmikmmljcaaGreat.flw (S.fly ++ [_]) t = _
        rw [flw_app, flw_one]; simp only
        by_cases e : x = t
        · rw [if_pos e, if_pos e.symm]; omega
        · rw [if_neg e, if_neg (Ne.symm e)]; omega) (by have := h.df x; omega)
  exact ⟨r.1, fun t => by rw [r.2 t]; split <;> omega⟩
end
end Go.Proofs.YtgggbmikmmljcaaGreat

namespace Go.Proofs.YtgggbmikmmljcaaGreat
open Go Go.V Go.Proofs
section
variable {k f : Nat} {S : CS}
theorem isK_trans {s a b : ByteArray} (h : isK s a = true) (h2 : isK s b = true) : isK a b = true := by
  unfold isK at *
  rw [beq_iff_eq] at *; rw [← h, h2]
theorem isK_no {s a b : ByteArray} (h : isK s a = true) (hab : isK a b = false) : isK s b = false := by
  cases e : isK s b
  · rfl
  · rw [isK_trans h e] at hab; cases hab
theorem isK_refl (a : ByteArray) : isK a a = true := by unfold isK; exact beq_self_eq_true _
theorem isK_dec' (s k : ByteArray) : isK s k = decide (bl s = bl k) := bl_eq s k
theorem kd_ag : isK kAsk kGive = false := by rw [isK_dec']; decide
theorem kd_ap : isK kAsk kPass = false := by rw [isK_dec']; decide
theorem kd_ab : isK kAsk kBack = false := by rw [isK_dec']; decide
theorem kd_ao : isK kAsk kGone = false := by rw [isK_dec']; decide
theorem kd_mg : isK kMore kGive = false := by rw [isK_dec']; decide
theorem kd_mp : isK kMore kPass = false := by rw [isK_dec']; decide
theorem kd_mb : isK kMore kBack = false := by rw [isK_dec']; decide
theorem kd_mo : isK kMore kGone = false := by rw [isK_dec']; decide
theorem kd_go : isK kGive kGone = false := by rw [isK_dec']; decide
theorem kd_po : isK kPass kGone = false := by rw [isK_dec']; decide
theorem kd_bo : isK kBack kGone = false := by rw [isK_dec']; decide
theorem kd_ro : isK kRenew kGone = false := by rw [isK_dec']; decide
theorem StateOk.live {x : Int} {s : ByteArray} (h : StateOk S x s) (hl : isK s kLive = true) : S.isT x ∧ (S.th x).expired = false ∧ Alive S (x - 1).toNat (S.th x) := by
  rcases h with ⟨_, rfl⟩ | ⟨hx, ⟨_, rfl⟩ | ⟨_, rfl, _⟩ | ⟨h1, _, h2⟩⟩
  · rw [isK_dec'] at hl; exact absurd hl (by decide)
  · rw [isK_dec'] at hl; exact absurd hl (by decide)
  · rw [isK_dec'] at hl; exact absurd hl (by decide)
  · exact ⟨hx, h1, h2⟩
theorem StateOk.not_live {x : Int} {s : ByteArray} (h : StateOk S x s) (hx : S.isT x) (hl : isK s kLive = false) : (S.th x).expired = true ∨ Free (S.th x) := by
  rcases h with ⟨h, _⟩ | ⟨_, ⟨h, _⟩ | ⟨_, _, h⟩ | ⟨_, rfl, _⟩⟩
  · exact absurd hx h
  · exact .inl h
  · exact .inr h
  · rw [isK_refl] at hl; cases hl
theorem Inv.re {S' : CS} {k' d : Nat} (h : Inv k f S) (hk : k ≤ k') (ec : S'.clocks.length = S.clocks.length) (el : S'.things.length = S.things.length)
    (ht : ∀ x, S.isT x → (S'.th x).owner = (S.th x).owner ∧ (S'.th x).out = (S.th x).out ∧ ((S'.th x).on.length ≤ k' ∧ ∀ y ∈ (S'.th x).on, S.isT y) ∧ ((S'.th x).swept = true → (S.th x).out = 0))
    (hc : S'.calls.length ≤ k' ∧ ∀ z ∈ S'.calls, S.isT z.2) (hp : S'.prox = S.prox) (hw : ∀ q, (S'.waits q).length ≤ k' ∧ ∀ y ∈ S'.waits q, S.isS y)
    (hf : ∃ ms : List Msg, S'.fly = S.fly ++ ms ∧ ms.length ≤ d ∧ ∀ m ∈ ms, S.isT m.ent ∧ S.isS m.frm ∧ S.isS m.to ∧ m.n = 0) : Inv k' (f + d) S' ∧ ∀ t, S'.dif t = S.dif t := by
  have hT : ∀ x, S'.isT x ↔ S.isT x := fun x => by simp [CS.isT, el]
  have hS : ∀ x, S'.isS x ↔ S.isS x := fun x => by simp [CS.isS, ec]
  obtain ⟨ms, hf1, hf2, hf3⟩ := hf
  have hd : ∀ t, S'.dif t = S.dif t := fun t => by
    have e0 : Go.Proofs.YtgggbmikmmljcaaGreat.flw ms t = 0 := flw_zero fun m hm _ => (hf3 m hm).2.2.2
    simp only [CS.dif, CS.outT, hT, ec, hp, hf1, flw_app, e0, Int.add_zero]
    by_cases hx : S.isT t
    · rw [if_pos hx, if_pos hx, (ht t hx).2.1]
    · rw [if_neg hx, if_neg hx]
  refine ⟨⟨by rw [ec]; exact h.ck, by rw [el]; exact Nat.le_trans h.th hk, hc.1, by rw [hf1, List.length_append]; have := h.fl; omega, fun x hx => ?_, fun x hx => ?_, fun z hz => (hT _).2 (hc.2 z hz), fun q => ⟨(hw q).1, fun y hy => (hS _).2 ((hw q).2 y hy)⟩, fun q => by rw [hp]; exact h.px q, fun q hq => ?_, fun m hm => ?_, fun x hx => ?_, fun t => by rw [hd]; exact h.df t⟩, hd⟩
  · rw [hS, (ht x ((hT x).1 hx)).1]; exact h.own x ((hT x).1 hx)
  · exact ⟨(ht x ((hT x).1 hx)).2.2.1.1, fun y hy => (hT _).2 ((ht x ((hT x).1 hx)).2.2.1.2 y hy)⟩
  · rw [hp] at hq; exact ⟨(hS _).2 (h.pxT q hq).1, (hT _).2 (h.pxT q hq).2⟩
  · rw [hf1, List.mem_append] at hm
    rcases hm with hm | hm
    · obtain ⟨a, b, c, d⟩ := h.fy m hm; exact ⟨(hT _).2 a, (hS _).2 b, (hS _).2 c, d⟩
    · obtain ⟨a, b, c, d⟩ := hf3 m hm; exact ⟨(hT _).2 a, (hS _).2 b, (hS _).2 c, by omega, .inl d⟩
  · have hx' := (hT x).1 hx
    obtain ⟨_, e, _, e2⟩ := ht x hx'
    rw [e]
    exact ⟨by have := (h.ou x hx').1; omega, e2⟩
theorem Inv.wk {k' : Nat} (h : Inv k f S) (hk : k ≤ k') (q : Int × Int) : (S.waits q).length ≤ k' ∧ ∀ y ∈ S.waits q, S.isS y := ⟨Nat.le_trans (h.wt q).1 hk, (h.wt q).2⟩
theorem Inv.onk {k' : Nat} (h : Inv k f S) (hk : k ≤ k') {x : Int} (hx : S.isT x) : (S.th x).on.length ≤ k' ∧ ∀ y ∈ (S.th x).on, S.isT y := ⟨Nat.le_trans (h.onl x hx).1 hk, (h.onl x hx).2⟩
theorem th_at {x : Int} (hx : S.isT x) : S.things[(x - 1).toNat]? = some (S.th x) := CS.th_get? hx
theorem Inv.re1 {k' : Nat} (h : Inv k f S) (hk : k ≤ k') {x : Int} (hx : S.isT x) {t' : Th} (h1 : t'.owner = (S.th x).owner) (h2 : t'.out = (S.th x).out) (h3 : t'.on.length ≤ k' ∧ ∀ y ∈ t'.on, S.isT y) (h4 : t'.swept = true → (S.th x).out = 0) {cs : List (Int × Int)} (hc : cs.length ≤ k' ∧ ∀ z ∈ cs, S.isT z.2) :
    Inv k' f { S.setTh (x - 1).toNat t' with calls := cs } ∧ ∀ t, CS.dif { S.setTh (x - 1).toNat t' with calls := cs } t = S.dif t := by
  refine h.re (S' := { S.setTh (x - 1).toNat t' with calls := cs }) (d := 0) hk rfl (by simp [CS.setTh]) (fun y hy => ?_) hc rfl (h.wk hk) ⟨[], (List.append_nil _).symm, Nat.le_refl _, by simp⟩
  have e : CS.th { S.setTh (x - 1).toNat t' with calls := cs } y = (S.setTh (x - 1).toNat t').th y := rfl
  rw [e, CS.th_setTh]
  have h1' := hx.1; have h2' := hx.2; have h3' := hy.1
  by_cases e : y = x
  · subst e; rw [if_pos ⟨rfl, by omega⟩]; exact ⟨h1, h2, h3, h4⟩
  · rw [if_neg (by omega)]; exact ⟨rfl, rfl, h.onk hk hy, (h.ou y hy).2⟩
theorem Inv.make (h : Inv k f S) {site : Int} (hs : S.isS site) : Inv (k + 1) f (S.make site) ∧ ∀ t, (S.make site).dif t = S.dif t := by
  have hT : ∀ x, S.isT x → (S.make site).isT x := fun x hx => ⟨hx.1, by have := hx.2; simp [CS.make]; omega⟩
  have hth : ∀ x, S.isT x → (S.make site).th x = S.th x := fun x hx => by
    have h1 := hx.1; have h2 := hx.2
    simp only [CS.th, CS.make, List.getD_eq_getElem?_getD]
    rw [List.getElem?_append_left (by omega)]
  have hnew : ∀ x, (S.make site).isT x → ¬ S.isT x → (S.make site).th x = ⟨site, true, 0, 0, false, false, []⟩ := fun x hx hn => by
    have h1 := hx.1; have h2 := hx.2
    simp only [CS.make, List.length_append, List.length_cons, List.length_nil] at h2
    have : x = S.things.length + 1 := by simp only [CS.isT] at hn; omega
    subst this
    simp only [CS.th, CS.make, List.getD_eq_getElem?_getD]
    rw [List.getElem?_append_right (by omega)]
    have e : ((S.things.length : Int) + 1 - 1).toNat - S.things.length = 0 := by omega
    rw [e]; rfl
  have hd : ∀ t, (S.make site).dif t = S.dif t := fun t => by
    show (S.make site).outT t - Go.Proofs.YtgggbmikmmljcaaGreat.px S.prox S.clocks.length t - Go.Proofs.YtgggbmikmmljcaaGreat.flw S.fly t = S.outT t - _ - _
    have : (S.make site).outT t = S.outT t := by
      unfold CS.outT
      by_cases hx : S.isT t
      · rw [if_pos hx, if_pos (hT t hx), hth t hx]
      · rw [if_neg hx]
        by_cases hx2 : (S.make site).isT t
        · rw [if_pos hx2, hnew t hx2 hx]
        · rw [if_neg hx2]
    rw [this]
  refine ⟨⟨h.ck, by have := h.th; simp [CS.make]; omega, Nat.le_succ_of_le h.ca, h.fl, fun x hx => ?_, fun x hx => ?_, fun z hz => hT _ (h.caT z hz), h.wk (Nat.le_succ k), h.px, fun q hq => ⟨(h.pxT q hq).1, hT _ (h.pxT q hq).2⟩, fun m hm => ⟨hT _ (h.fy m hm).1, (h.fy m hm).2⟩, fun x hx => ?_, fun t => by rw [hd]; exact h.df t⟩, hd⟩
  · by_cases hx2 : S.isT x
    · rw [hth x hx2]; exact h.own x hx2
    · rw [hnew x hx hx2]; exact hs
  · by_cases hx2 : S.isT x
    · rw [hth x hx2]; exact ⟨Nat.le_succ_of_le (h.onl x hx2).1, fun y hy => hT _ ((h.onl x hx2).2 y hy)⟩
    · rw [hnew x hx hx2]; exact ⟨Nat.zero_le _, by simp⟩
  · by_cases hx2 : S.isT x
    · rw [hth x hx2]; have := h.ou x hx2; exact ⟨by omega, this.2⟩
    · rw [hnew x hx hx2]; exact ⟨by show (0 : Int) ≤ _; omega, fun _ => rfl⟩
theorem passesOk {q : Int × Int} (l : List Int) : ∀ {f : Nat} {S : CS}, Inv k f S → S.isS q.1 → S.isT q.2 → (∀ y ∈ l, S.isS y) →
    Inv k (f + l.length) (CS.passes q l S).1 ∧ (∀ t, (CS.passes q l S).1.dif t = S.dif t) ∧ (CS.passes q l S).1.things = S.things ∧ (CS.passes q l S).1.clocks = S.clocks ∧ (CS.passes q l S).1.waits = S.waits ∧ (CS.passes q l S).1.calls = S.calls ∧ (∀ y ∈ (CS.passes q l S).2, y ∈ l) ∧ (CS.passes q l S).2.length ≤ l.length := by
  induction l with
  | nil => intro f S h _ _ _; exact ⟨h, fun _ => rfl, rfl, rfl, rfl, rfl, fun y hy => hy, Nat.le_refl _⟩
  | cons to l ih =>
    intro f S h h1 h2 hl
    unfold CS.passes
    split
    · obtain ⟨g1, g2⟩ := h.half h1 h2 (hl to List.mem_cons_self)
      obtain ⟨r1, r2, r3, r4, r5, r6, r7, r8⟩ := ih g1 h1 h2 fun y hy => hl y (List.mem_cons_of_mem _ hy)
      exact ⟨r1.mono (Nat.le_refl _) (by simp; omega), fun t => (r2 t).trans (g2 t), r3, r4, r5, r6, fun y hy => List.mem_cons_of_mem _ (r7 y hy), Nat.le_succ_of_le r8⟩
    · exact ⟨h.mono (Nat.le_refl _) (Nat.le_add_right _ _), fun _ => rfl, rfl, rfl, rfl, rfl, fun y hy => hy, Nat.le_refl _⟩
theorem Inv.again (h : Inv k f S) {q : Int × Int} (h1 : S.isS q.1) (h2 : S.isT q.2) : Inv k (f + k + 1) (S.again q) ∧ ∀ t, (S.again q).dif t = S.dif t := by
  obtain ⟨r1, r2, r3, r4, r5, r6, r7, r8⟩ := passesOk (S.waits q) h h1 h2 (h.wt q).2
  have hw := (h.wt q).1
  have r1 : Inv k (f + k) (CS.passes q (S.waits q) S).1 := r1.mono (Nat.le_refl _) (by omega)
  unfold CS.again
  generalize hP : (CS.passes q (S.waits q) S).1 = P at *
  generalize hL : (CS.passes q (S.waits q) S).2 = L at *
  have isT' : ∀ {x}, S.isT x → P.isT x := fun hx => by unfold CS.isT; rw [r3]; exact hx
  have isS' : ∀ {x}, S.isS x → P.isS x := fun hx => by unfold CS.isS; rw [r4]; exact hx
  have cutW : ∀ p, ((P.cut q).waits p).length ≤ k ∧ ∀ y ∈ (P.cut q).waits p, P.isS y := fun p => by
    show (upd P.waits q [] p).length ≤ k ∧ ∀ y ∈ upd P.waits q [] p, _
    unfold upd; split
    · exact ⟨Nat.zero_le _, by simp⟩
    · exact r1.wt p
  split
  · have c := r1.same (S' := P.cut q) rfl rfl rfl rfl ⟨r1.ca, r1.caT⟩ cutW
    exact ⟨c.1.mono (Nat.le_refl _) (Nat.le_succ _), fun t => (c.2 t).trans (r2 t)⟩
  · have c := r1.same (S' := (P.cut q).putW q L) rfl rfl rfl rfl ⟨r1.ca, r1.caT⟩ (fun p => by
      show (upd (P.cut q).waits q L p).length ≤ k ∧ ∀ y ∈ upd (P.cut q).waits q L p, _
      unfold upd; split
      · exact ⟨by omega, fun y hy => isS' ((h.wt q).2 y (r7 y hy))⟩
      · exact cutW p)
    have s := c.1.sendZ (S' := ((P.cut q).putW q L).askM q) (m := ⟨q.1, (((P.cut q).putW q L).th q.2).owner, kMore, q.2, 0⟩) (isT' h2) (isS' h1) (r1.own _ (isT' h2)) rfl rfl rfl rfl rfl rfl rfl
    exact ⟨s.1, fun t => ((s.2 t).trans (c.2 t)).trans (r2 t)⟩
end
end Go.Proofs.YtgggbmikmmljcaaGreat

namespace Go.Proofs.YtgggbmikmmljcaaGreat
open Go Go.V Go.Proofs
def CS.msg? (S : CS) (a : Int) : Option Msg := if 0 ≤ a then S.fly[a.toNat]? else none
def loss (S : CS) (d a t : Int) : Int := match S.msg? a with
  | none => 0
  | some m => if d = 7 then (if t = m.ent then m.n else 0) else if d = 6 ∧ isK m.kind kGone = true then (if t = m.ent then S.prox (m.to, m.ent) else 0) else 0
def PlayOk (S : CS) (d a b c : Int) (S' : CS) : Prop :=
  if d = 0 then S' = S.makeE a else if d = 1 then S' = S.askS a b else if d = 2 then PassOk S a b c S' else if d = 3 then ∃ e, DropOk S a b e S' else if d = 4 then HoldOk S a b S' else if d = 5 then LooseOk S a S'
  else if d = 6 then ∃ e, DelOk S a e S' else if d = 7 then S' = S.drops a else if d = 8 then Calm S S' S.things.length else if d = 9 then (¬ S.isS a ∧ S' = S) ∨ (S.isS a ∧ ∃ n, SweepOk S a n S') else S' = S
section
variable {k f : Nat} {S S' : CS}
theorem loss_no {d a t : Int} (h6 : d ≠ 6) (h7 : d ≠ 7) : loss S d a t = 0 := by
  unfold loss; split
  · rfl
  · rw [if_neg h7, if_neg fun h => h6 h.1]
theorem Inv.ask (h : Inv k f S) (a b : Int) : Inv k (f + 1) (S.askS a b) ∧ ∀ t, (S.askS a b).dif t = S.dif t := by
  unfold CS.askS
  split
  · rename_i hc
    obtain ⟨hx, hs⟩ := usable_isT hc.1
    exact h.sendZ (m := ⟨a, (S.th b).owner, kAsk, b, 0⟩) hx (hs a List.mem_cons_self) (h.own _ hx) rfl rfl rfl rfl rfl rfl rfl
  · exact ⟨h.mono (Nat.le_refl _) (Nat.le_succ _), fun _ => rfl⟩
theorem Inv.putW (h : Inv k f S) (q : Int × Int) {to : Int} (hto : S.isS to) : Inv (k + 1) f (S.putW q (S.waits q ++ [to])) ∧ ∀ t, (S.putW q (S.waits q ++ [to])).dif t = S.dif t :=
  (h.mono (Nat.le_succ k) (Nat.le_refl f)).same rfl rfl rfl rfl ⟨Nat.le_succ_of_le h.ca, h.caT⟩ fun p => by
    show (upd S.waits q _ p).length ≤ _ ∧ ∀ y ∈ upd S.waits q _ p, _
    unfold upd; split
    · refine ⟨by simp; exact (h.wt q).1, fun y hy => ?_⟩
      rw [List.mem_append, List.mem_singleton] at hy
      rcases hy with hy | rfl
      · exact (h.wt q).2 y hy
      · exact hto
    · exact h.wk (Nat.le_succ k) p
theorem Inv.pass (h : Inv k f S) {a b c : Int} (p : PassOk S a b c S') : Inv (k + 1) (f + 1) S' ∧ ∀ t, S'.dif t = S.dif t := by
  have same : Inv (k + 1) (f + 1) S ∧ ∀ t, S.dif t = S.dif t := ⟨h.mono (Nat.le_succ _) (Nat.le_succ _), fun _ => rfl⟩
  unfold PassOk at p
  split at p
  · rename_i hu
    obtain ⟨hx, hs⟩ := usable_isT hu
    have ha := hs a List.mem_cons_self
    have hb := hs b (List.mem_cons_of_mem _ List.mem_cons_self)
    split at p
    · obtain ⟨s, h1, rfl⟩ := p
      split
      · rename_i hc
        obtain ⟨-, -, hA⟩ := h1.live hc.1
        exact h.give hx hb hA.1 (.inr (isK_refl _))
      · exact same
    · subst p
      split
      · exact same
      · split
        · rename_i hp
          have r := h.half (q := (a, c)) ha hx hb
          exact ⟨r.1.mono (Nat.le_succ _) (Nat.le_refl _), r.2⟩
        · have r := h.putW (a, c) hb
          split
          · exact ⟨r.1.mono (Nat.le_refl _) (Nat.le_succ _), r.2⟩
          · have s := r.1.sendZ (S' := (S.putW (a, c) (S.waits (a, c) ++ [b])).askM (a, c)) (m := ⟨a, (S.th c).owner, kMore, c, 0⟩) hx ha (h.own _ hx) rfl rfl rfl rfl rfl rfl rfl
            exact ⟨s.1, fun t => (s.2 t).trans (r.2 t)⟩
  · subst p; exact same
theorem Inv.drop (h : Inv k f S) {a b e : Int} (p : DropOk S a b e S') : Inv k (f + 1) S' ∧ ∀ t, S'.dif t = S.dif t := by
  have same : Inv k (f + 1) S ∧ ∀ t, S.dif t = S.dif t := ⟨h.mono (Nat.le_refl _) (Nat.le_succ _), fun _ => rfl⟩
  unfold DropOk at p
  split at p
  · rename_i hu
    obtain ⟨hx, hs⟩ := usable_isT hu
    have ha := hs a List.mem_cons_self
    split at p
    · split at p
      · obtain ⟨-, rfl⟩ := p; exact same
      · obtain ⟨-, rfl⟩ := p
        split
        · have r := h.re1 (Nat.le_refl k) hx (t' := { S.th b with holds := false }) rfl rfl (h.onl b hx) (h.ou b hx).2 (cs := S.calls) ⟨h.ca, h.caT⟩
          exact ⟨r.1.mono (Nat.le_refl _) (Nat.le_succ _), r.2⟩
        · exact h.letM (q := (a, b)) ha hx
    · obtain ⟨-, rfl⟩ := p; exact same
  · obtain ⟨-, rfl⟩ := p; exact same
theorem Inv.hold (h : Inv k f S) {a b : Int} (p : HoldOk S a b S') : Inv (k + 1) f S' ∧ ∀ t, S'.dif t = S.dif t := by
  rcases p with rfl | ⟨hx, hy, rfl⟩
  · exact ⟨h.mono (Nat.le_succ _) (Nat.le_refl _), fun _ => rfl⟩
  · refine h.re1 (Nat.le_succ k) hx (t' := { S.th a with on := (S.th a).on ++ [b] }) rfl rfl ⟨by simp; exact (h.onl a hx).1, fun y hy2 => ?_⟩ (h.ou a hx).2 ⟨by simp; exact h.ca, fun z hz => ?_⟩
    · simp only [List.mem_append, List.mem_singleton] at hy2
      rcases hy2 with hy2 | rfl
      · exact (h.onl a hx).2 y hy2
      · exact hy
    · rw [List.mem_append, List.mem_singleton] at hz
      rcases hz with hz | rfl
      · exact h.caT z hz
      · exact hy
theorem Inv.loose (h : Inv k f S) {a : Int} (p : LooseOk S a S') : Inv k f S' ∧ ∀ t, S'.dif t = S.dif t := by
  rcases p with rfl | ⟨hx, ys, zs, rfl, h1, h2, h3, h4⟩
  · exact ⟨h, fun _ => rfl⟩
  · exact h.re1 (Nat.le_refl k) hx (t' := { S.th a with on := ys }) rfl rfl ⟨Nat.le_trans h1 (h.onl a hx).1, fun y hy => (h.onl a hx).2 y (h2 y hy)⟩ (h.ou a hx).2 ⟨Nat.le_trans h3 h.ca, fun z hz => h.caT z (h4 z hz)⟩
theorem Inv.calm (h : Inv k f S) (p : Calm S S' S.things.length) : Inv k (f + k) S' ∧ ∀ t, S'.dif t = S.dif t := by
  obtain ⟨ms, m1, m2, m3⟩ := p.fly
  have hl := h.th
  refine h.re (Nat.le_refl k) p.clocks p.len (fun x hx => ?_) (by rw [p.calls]; exact ⟨h.ca, h.caT⟩) p.prox (by rw [p.waits]; exact h.wt) ⟨ms, m1, by omega, m3⟩
  have hx' : S'.isT x := ⟨hx.1, by rw [p.len]; exact hx.2⟩
  obtain ⟨e1, e2, e3, e4, e5⟩ := p.th _ _ _ (th_at hx) (th_at hx')
  exact ⟨e1, e3, by rw [e5]; exact h.onl x hx, by rw [e4]; exact (h.ou x hx).2⟩
theorem free_out (h : Inv k f S) {x : Int} (hx : S.isT x) (hf : Free (S.th x)) : (S.th x).out = 0 := by
  rcases hf with hf | ⟨_, _, hf⟩
  · exact (h.ou x hx).2 hf
  · have := h.out0 hx; omega
theorem Inv.sw (h : Inv k f S) (p : Sw S S') : Inv k f S' ∧ ∀ t, S'.dif t = S.dif t := by
  have eq := p.eq
  refine h.re (d := 0) (Nat.le_refl k) (by rw [eq]) p.len (fun x hx => ?_) (by rw [eq]; exact ⟨h.ca, h.caT⟩) (by rw [eq]) (by rw [eq]; exact h.wt) ⟨[], by rw [eq]; simp, Nat.le_refl _, by simp⟩
  have hx' : S'.isT x := ⟨hx.1, by rw [p.len]; exact hx.2⟩
  obtain ⟨e1, _, e3, _, e5⟩ := p.th _ _ _ (th_at hx) (th_at hx')
  rcases e5 with ⟨e5, e6⟩ | ⟨e5, e6, e7⟩
  · exact ⟨e1, e3, by rw [e6]; exact h.onl x hx, by rw [e5]; exact (h.ou x hx).2⟩
  · exact ⟨e1, e3, by rw [e7]; exact ⟨Nat.zero_le _, by simp⟩, fun _ => free_out h hx e5⟩
theorem Inv.lets (h : Inv k f S) {site : Int} (hs : S.isS site) {n : Nat} (p : Lets site S n S') : Inv k (f + n) S' ∧ ∀ t, S'.dif t = S.dif t := by
  induction p with
  | nil => exact ⟨h, fun _ => rfl⟩
  | skip _ ih => exact ⟨ih.1.mono (Nat.le_refl _) (by omega), ih.2⟩
  | @step n S1 x hl h1 h2 ih =>
    have r := ih.1.letM (q := (site, x)) (by have := hl.k.clocks; unfold CS.isS; rw [this]; exact hs) h1
    exact ⟨r.1, fun t => (r.2 t).trans (ih.2 t)⟩
theorem Inv.sweep (h : Inv k f S) {site : Int} (hs : S.isS site) {n : Nat} (p : SweepOk S site n S') : Inv k (f + k) S' ∧ ∀ t, S'.dif t = S.dif t := by
  obtain ⟨S1, S2, ys, ⟨hsw, _⟩, hl, rfl, hy1, hy2⟩ := p
  have r1 := h.sw hsw
  have hs1 : S1.isS site := by unfold CS.isS; rw [hsw.eq]; exact hs
  have r2 := r1.1.lets hs1 hl
  have hc := h.ca
  have hT : ∀ x, S.isT x → S2.isT x := fun x hx => ⟨hx.1, by rw [hl.k.things, hsw.len]; exact hx.2⟩
  have r3 := r2.1.same (S' := { S2 with calls := ys }) rfl rfl rfl rfl ⟨by show ys.length ≤ k; omega, fun z hz => hT _ (h.caT z (hy2 z hz))⟩ r2.1.wt
  exact ⟨r3.1.mono (Nat.le_refl _) (by omega), fun t => ((r3.2 t).trans (r2.2 t)).trans (r1.2 t)⟩
theorem Inv.drops (h : Inv k f S) (a : Int) : Inv k f (S.drops a) ∧ ∀ t, (S.drops a).dif t = S.dif t + loss S 7 a t := by
  unfold CS.drops loss CS.msg?
  by_cases h0 : 0 ≤ a
  · rw [if_pos h0]
    by_cases h1 : a < S.fly.length
    · rw [if_pos ⟨h0, h1⟩]
      have e : S.fly[a.toNat]? = some S.fly[a.toNat] := List.getElem?_eq_getElem (by omega)
      rw [e]
      exact h.take e
    · rw [if_neg (by omega), List.getElem?_eq_none (by omega)]
      exact ⟨h, fun _ => (Int.add_zero _).symm⟩
  · rw [if_neg h0, if_neg (by omega)]
    exact ⟨h, fun _ => (Int.add_zero _).symm⟩
theorem Inv.del (h : Inv k f S) {a e : Int} (p : DelOk S a e S') : Inv (k + 1) (f + k + 1) S' ∧ ∀ t, S'.dif t = S.dif t + loss S 6 a t := by
  rcases p with ⟨hn, rfl, rfl⟩ | ⟨m, h0, hm, rfl, p⟩
  · refine ⟨h.mono (Nat.le_succ _) (by omega), fun t => ?_⟩
    unfold loss CS.msg?
    by_cases h0 : 0 ≤ a
    · rw [if_pos h0, List.getElem?_eq_none (by omega)]; exact (Int.add_zero _).symm
    · rw [if_neg h0]; exact (Int.add_zero _).symm
  obtain ⟨hx, h1, h2, hn, hc⟩ := h.fy m (List.mem_of_getElem? hm)
  obtain ⟨t1, t2⟩ := h.take hm
  have e67 : ¬ (6 : Int) = 7 := by decide
  have eL : ∀ t, loss S 6 a t = if isK m.kind kGone = true then (if t = m.ent then S.prox (m.to, m.ent) else 0) else 0 := fun t => by
    unfold loss CS.msg?
    rw [if_pos h0, hm]
    simp only [if_neg e67, true_and]
  have noL : isK m.kind kGone = false → ∀ t, S.dif t + loss S 6 a t = S.dif t := fun hg t => by rw [eL, if_neg (by rw [hg]; simp), Int.add_zero]
  have zero : m.n = 0 → ∀ t, (S.take a.toNat).dif t = S.dif t := fun e t => by rw [t2 t, e]; split <;> omega
  have dpos : m.n ≤ (S.take a.toNat).dif m.ent := by rw [t2, if_pos rfl]; have := h.df m.ent; omega
  have up : ∀ {S1 : CS} {k1 f1 : Nat}, Inv k1 f1 S1 → k1 ≤ k + 1 → f1 ≤ f + k + 1 → Inv (k + 1) (f + k + 1) S1 := fun i a b => i.mono a b
  unfold TakeOk at p
  split at p
  · rename_i tA
    have hK : isK m.kind kGive = false ∧ isK m.kind kPass = false ∧ isK m.kind kBack = false ∧ isK m.kind kGone = false := by
      rw [Bool.or_eq_true] at tA
      rcases tA with tA | tA
      · exact ⟨isK_no tA kd_ag, isK_no tA kd_ap, isK_no tA kd_ab, isK_no tA kd_ao⟩
      · exact ⟨isK_no tA kd_mg, isK_no tA kd_mp, isK_no tA kd_mb, isK_no tA kd_mo⟩
    have n0 : m.n = 0 := by
      rcases hc with hc | hc | hc | hc
      · exact hc
      · rw [hK.1] at hc; cases hc
      · rw [hK.2.1] at hc; cases hc
      · rw [hK.2.2.1] at hc; cases hc
    obtain ⟨s, hs, p⟩ := p
    split at p
    · rename_i hl
      subst p
      obtain ⟨-, -, hA⟩ := hs.live hl
      have r := t1.give (to := m.frm) (kind := kGive) (x := m.ent) hx h1 hA.1 (.inl (isK_refl _))
      exact ⟨up r.1 (Nat.le_refl _) (by omega), fun t => by rw [noL hK.2.2.2, r.2 t, zero n0]⟩
    · subst p
      have r := t1.sendZ (S' := (S.take a.toNat).send ⟨m.to, m.frm, kGone, m.ent, 0⟩) (m := ⟨m.to, m.frm, kGone, m.ent, 0⟩) hx h2 h1 rfl rfl rfl rfl rfl rfl rfl
      exact ⟨up r.1 (Nat.le_succ _) (by omega), fun t => by rw [noL hK.2.2.2, r.2 t, zero n0]⟩
  split at p
  · rename_i tG
    subst p
    have u := t1.same (S' := (S.take a.toNat).unask (m.to, m.ent)) rfl rfl rfl rfl ⟨t1.ca, t1.caT⟩ t1.wt
    have q := u.1.pay (q := (m.to, m.ent)) (n := m.n) h2 hx hn (by rw [u.2]; exact dpos)
    have r := q.1.again (q := (m.to, m.ent)) h2 hx
    refine ⟨up r.1 (Nat.le_succ _) (by omega), fun t => ?_⟩
    rw [noL (isK_no tG kd_go), r.2 t, q.2 t, u.2 t, t2 t]
    show _ - (if t = m.ent then m.n else 0) = _
    split <;> omega
  rename_i nA nG
  split at p
  · rename_i tP
    subst p
    have q := t1.pay (q := (m.to, m.ent)) (n := m.n) h2 hx hn dpos
    refine ⟨up q.1 (Nat.le_succ _) (by omega), fun t => ?_⟩
    rw [noL (isK_no tP kd_po), q.2 t, t2 t]
    show _ - (if t = m.ent then m.n else 0) = _
    split <;> omega
  rename_i nP
  split at p
  · rename_i tB
    subst p
    have d2 := dpos
    have hp := t1.pxs m.ent
    have hf := t1.flw m.ent
    have hout := outT_eq (S := S.take a.toNat) (x := m.ent) hx
    have q := t1.setTh (x := m.ent) hx (t' := { (S.take a.toNat).th m.ent with out := ((S.take a.toNat).th m.ent).out - m.n }) rfl rfl rfl (o := -m.n) rfl (by have := (t1.ou _ hx).1; omega) (fun e => by
      have := (t1.ou _ hx).2 e
      have hd : (S.take a.toNat).dif m.ent = (S.take a.toNat).outT m.ent - _ - _ := rfl
      omega) (by omega)
    refine ⟨up q.1 (Nat.le_succ _) (by omega), fun t => ?_⟩
    rw [noL (isK_no tB kd_bo)]
    refine (q.2 t).trans ?_
    rw [t2 t]
    split <;> omega
  rename_i nB
  have n0 : m.n = 0 := by
    rcases hc with hc | hc | hc | hc
    · exact hc
    · exact absurd hc nG
    · exact absurd hc nP
    · exact absurd hc nB
  split at p
  · rename_i tR
    split at p
    · subst p
      have r := t1.sendZ (S' := (S.take a.toNat).send ⟨m.to, m.frm, kGone, m.ent, 0⟩) (m := ⟨m.to, m.frm, kGone, m.ent, 0⟩) hx h2 h1 rfl rfl rfl rfl rfl rfl rfl
      exact ⟨up r.1 (Nat.le_succ _) (by omega), fun t => by rw [noL (isK_no tR kd_ro), r.2 t, zero n0]⟩
    · subst p
      have r := t1.setTh (x := m.ent) hx (t' := { (S.take a.toNat).th m.ent with heard := (S.take a.toNat).clocks.getD ((S.take a.toNat).th m.ent).owner.toNat 0 }) rfl rfl rfl (o := 0) (Int.add_zero _).symm (by rw [Int.add_zero]; exact (t1.ou _ hx).1) (fun _ => rfl) (by rw [Int.add_zero]; exact t1.df _)
      refine ⟨up r.1 (Nat.le_succ _) (by omega), fun t => ?_⟩
      rw [noL (isK_no tR kd_ro), ← zero n0 t]
      refine (r.2 t).trans ?_
      split <;> omega
  split at p
  · rename_i tO
    subst p
    have r := t1.goneM (q := (m.to, m.ent)) h2 hx
    refine ⟨up r.1 (Nat.le_succ _) (by omega), fun t => ?_⟩
    rw [eL, if_pos tO, r.2 t, zero n0]; rfl
  · rename_i nO
    subst p
    exact ⟨up t1 (Nat.le_succ _) (by omega), fun t => by rw [noL (by simpa using nO), zero n0]⟩
theorem Inv.play (h : Inv k f S) {d a b c : Int} (p : PlayOk S d a b c S') : Inv (k + 1) (f + k + 1) S' ∧ ∀ t, S'.dif t = S.dif t + loss S d a t := by
  unfold PlayOk at p
  have up : ∀ {k1 f1 : Nat}, (Inv k1 f1 S' ∧ ∀ t, S'.dif t = S.dif t) → k1 ≤ k + 1 → f1 ≤ f + k + 1 → d ≠ 6 → d ≠ 7 → Inv (k + 1) (f + k + 1) S' ∧ ∀ t, S'.dif t = S.dif t + loss S d a t :=
    fun i a b h6 h7 => ⟨i.1.mono a b, fun t => by rw [i.2 t, loss_no h6 h7, Int.add_zero]⟩
  split at p
  · subst p
    refine up (k1 := k + 1) (f1 := f) ?_ (by omega) (by omega) (by omega) (by omega)
    unfold CS.makeE
    split
    · exact h.make ‹_›
    · exact ⟨h.mono (Nat.le_succ _) (Nat.le_refl _), fun _ => rfl⟩
  split at p
  · subst p; exact up (h.ask a b) (by omega) (by omega) (by omega) (by omega)
  split at p
  · exact up (h.pass p) (by omega) (by omega) (by omega) (by omega)
  split at p
  · obtain ⟨e, p⟩ := p; exact up (h.drop p) (by omega) (by omega) (by omega) (by omega)
  split at p
  · exact up (h.hold p) (by omega) (by omega) (by omega) (by omega)
  split at p
  · exact up (h.loose p) (by omega) (by omega) (by omega) (by omega)
  split at p
  · rename_i e; subst e
    obtain ⟨e, p⟩ := p; exact h.del p
  split at p
  · rename_i e; subst e; subst p
    have r := h.drops a
    exact ⟨r.1.mono (by omega) (by omega), r.2⟩
  split at p
  · exact up (h.calm p) (by omega) (by omega) (by omega) (by omega)
  split at p
  · rcases p with ⟨_, rfl⟩ | ⟨hs, n, p⟩
    · exact up ⟨h, fun _ => rfl⟩ (by omega) (by omega) (by omega) (by omega)
    · exact up (h.sweep hs p) (by omega) (by omega) (by omega) (by omega)
  · subst p; exact up ⟨h, fun _ => rfl⟩ (by omega) (by omega) (by omega) (by omega)
theorem Inv.zero {s : Nat} (h1 : 1 ≤ s) (h2 : s ≤ 5) (t l : Int) : Inv 0 0 (CS.zero s t l) where
  ck := by simp [CS.zero]; omega
  th := Nat.le_refl _
  ca := Nat.le_refl _
  fl := Nat.le_refl _
  own := fun x hx => by have := hx.1; have := hx.2; simp [CS.zero] at this; omega
  onl := fun x hx => by have := hx.1; have := hx.2; simp [CS.zero] at this; omega
  caT := fun z hz => by simp [CS.zero] at hz
  wt := fun q => ⟨Nat.le_refl _, by simp [CS.zero]⟩
  px := fun q => Int.le_refl 0
  pxT := fun q hq => absurd rfl hq
  fy := fun m hm => by simp [CS.zero] at hm
  ou := fun x hx => by have := hx.1; have := hx.2; simp [CS.zero] at this; omega
  df := fun t => by
    have e1 : (CS.zero s t l).outT t = 0 := if_neg fun hx => by have := hx.1; have := hx.2; simp [CS.zero] at this; omega
    have e2 : Go.Proofs.YtgggbmikmmljcaaGreat.px (CS.zero s t l).prox (CS.zero s t l).clocks.length t = 0 := px_zero fun _ _ _ => rfl
    unfold CS.dif
    rename_i t0
    have e3 : ∀ u, (CS.zero s t0 l).outT u - Go.Proofs.YtgggbmikmmljcaaGreat.px (CS.zero s t0 l).prox (CS.zero s t0 l).clocks.length u - Go.Proofs.YtgggbmikmmljcaaGreat.flw (CS.zero s t0 l).fly u = 0 := fun u => by
      have e1 : (CS.zero s t0 l).outT u = 0 := if_neg fun hx => by have := hx.1; have := hx.2; simp [CS.zero] at this; omega
      have e2 : Go.Proofs.YtgggbmikmmljcaaGreat.px (CS.zero s t0 l).prox (CS.zero s t0 l).clocks.length u = 0 := px_zero fun _ _ _ => rfl
      rw [e1, e2]; rfl
    rw [e3]; exact Int.le_refl 0
end
end Go.Proofs.YtgggbmikmmljcaaGreat

namespace Go.Proofs.YtgggbmikmmljcaaGreat
open Go Go.V Go.Proofs
open Go.RowKit (Below)
/-! (*manystrand/count.Count).loose -/
def N83 (o1 : Option Addr) (x2 : Int) (a3 : Option Addr) (l3 : Nat) (_c3 : Nat) (K : Bool → World → Prop) (w : World) : Prop :=
 Calls Tryz.prog 44 #[(.pointer o1), (.int .i64 x2)] w fun e6 w5 =>
 ∃ (o4 : Option Addr), e6 = .returned (.pointer o4) ∧
 (AddrK o4 fun b7 =>
 ∃ (p8 : Bool), w5.cell? (b7.add 1) = some (.bool p8) ∧
 (BoolK p8
 (K false w5)
 (AddrK o1 fun b9 =>
 ∃ (a10 : Option Addr) (l10 : Nat) (c10 : Nat), w5.cell? (b9.add 11) = some (.slice a10 l10 c10) ∧
 (∃ (I11 : Int → World → Prop) (μ12 : Int → World → Nat),
 (I11 0 w5 ∧ True) ∧
 ∀ (w13 : World) (x14 : Int), I11 x14 w13 →
 BoolK (decide ((x14 : Int) < (l10 : Nat)))
 ((0 ≤ (x14 : Int) ∧ (x14 : Int) < (l10 : Nat)) ∧
 AddrK a10 fun b15 =>
 ∃ (x16 : Int), w13.cell? ((b15.add ((x14 : Int).toNat * 8)).add 0) = some (.int .i64 x16) ∧
 (∃ (x17 : Int), w13.cell? ((b15.add ((x14 : Int).toNat * 8)).add 1) = some (.int .i64 x17) ∧
 (∃ (s18 : ByteArray), w13.cell? ((b15.add ((x14 : Int).toNat * 8)).add 2) = some (.string s18) ∧
 (∃ (x19 : Int), w13.cell? ((b15.add ((x14 : Int).toNat * 8)).add 3) = some (.int .i64 x19) ∧
 (∃ (x20 : Int), w13.cell? ((b15.add ((x14 : Int).toNat * 8)).add 4) = some (.int .i64 x20) ∧
 (∃ (x21 : Int), w13.cell? ((b15.add ((x14 : Int).toNat * 8)).add 5) = some (.int .i64 x21) ∧
 (∃ (x22 : Int), w13.cell? ((b15.add ((x14 : Int).toNat * 8)).add 6) = some (.int .i64 x22) ∧
 (∃ (a23 : Option Addr) (l23 : Nat) (c23 : Nat), w13.cell? ((b15.add ((x14 : Int).toNat * 8)).add 7) = some (.slice a23 l23 c23) ∧
 (AllocK w13 (#[.int .i64 0, .int .i64 0, .string ⟨#[]⟩, .int .i64 0, .int .i64 0, .int .i64 0, .int .i64 0, .slice none 0 0]) 40 fun b24 w25 =>
 SetK w25 (b24.add 0) (.int .i64 x16) fun w26 =>
 SetK w26 (b24.add 1) (.int .i64 x17) fun w27 =>
 SetK w27 (b24.add 2) (.string s18) fun w28 =>
 SetK w28 (b24.add 3) (.int .i64 x19) fun w29 =>
 SetK w29 (b24.add 4) (.int .i64 x20) fun w30 =>
 SetK w30 (b24.add 5) (.int .i64 x21) fun w31 =>
 SetK w31 (b24.add 6) (.int .i64 x22) fun w32 =>
 SetK w32 (b24.add 7) (.slice a23 l23 c23) fun w33 =>
 ∃ (x34 : Int), w33.cell? (b24.add 3) = some (.int .i64 x34) ∧
 (BoolK ((x34 : Int) == x2)
 (∃ (x35 : Int), w33.cell? (b24.add 4) = some (.int .i64 x35) ∧
 (BoolK (decide ((x35 : Int) > 0))
 (K false w33)
 (I11 (IntKind.wrap .i64 (x14 + 1)) w33 ∧ μ12 (IntKind.wrap .i64 (x14 + 1)) w33 < μ12 x14 w13)))
 (I11 (IntKind.wrap .i64 (x14 + 1)) w33 ∧ μ12 (IntKind.wrap .i64 (x14 + 1)) w33 < μ12 x14 w13)))))))))))
 (AddrK o1 fun b36 =>
 ∃ (a37 : Option Addr) (l37 : Nat) (c37 : Nat), w13.cell? (b36.add 5) = some (.slice a37 l37 c37) ∧
 (∃ (I38 : Int → World → Prop) (μ39 : Int → World → Nat),
 (I38 0 w13 ∧ True) ∧
 ∀ (w40 : World) (x41 : Int), I38 x41 w40 →
 BoolK (decide ((x41 : Int) < (l37 : Nat)))
 (AddrK o1 fun b42 =>
 ∃ (a43 : Option Addr) (l43 : Nat) (c43 : Nat), w40.cell? (b42.add 5) = some (.slice a43 l43 c43) ∧
 ((0 ≤ (x41 : Int) ∧ (x41 : Int) < (l43 : Nat)) ∧
 AddrK a43 fun b44 =>
 ∃ (p45 : Bool), w40.cell? ((b44.add ((x41 : Int).toNat * 7)).add 5) = some (.bool p45) ∧
 (BoolK (!p45)
 (∃ (a46 : Option Addr) (l46 : Nat) (c46 : Nat), w40.cell? ((b44.add ((x41 : Int).toNat * 7)).add 6) = some (.slice a46 l46 c46) ∧
 (Calls Tryz.prog 56 #[(.slice a46 l46 c46), (.int .i64 x2)] w40 fun e49 w48 =>
 ∃ (p47 : Bool), e49 = .returned (.bool p47) ∧
 (BoolK p47
 ((0 ≤ (IntKind.wrap .i64 (x41 + 1) : Int) ∧ (IntKind.wrap .i64 (x41 + 1) : Int) < (l3 : Nat)) ∧
 AddrK a3 fun b50 =>
 ∃ (p51 : Bool), w48.cell? (b50.add ((IntKind.wrap .i64 (x41 + 1) : Int).toNat * 1)) = some (.bool p51) ∧
 (BoolK (!p51)
 (K false w48)
 (I38 (IntKind.wrap .i64 (x41 + 1)) w48 ∧ μ39 (IntKind.wrap .i64 (x41 + 1)) w48 < μ39 x41 w40)))
 (I38 (IntKind.wrap .i64 (x41 + 1)) w48 ∧ μ39 (IntKind.wrap .i64 (x41 + 1)) w48 < μ39 x41 w40))))
 (I38 (IntKind.wrap .i64 (x41 + 1)) w40 ∧ μ39 (IntKind.wrap .i64 (x41 + 1)) w40 < μ39 x41 w40))))
 (AddrK o1 fun b52 =>
 ∃ (a53 : Option Addr) (l53 : Nat) (c53 : Nat), w40.cell? (b52.add 3) = some (.slice a53 l53 c53) ∧
 (∃ (I54 : Int → World → Prop) (μ55 : Int → World → Nat),
 (I54 0 w40 ∧ True) ∧
 ∀ (w56 : World) (x57 : Int), I54 x57 w56 →
 BoolK (decide ((x57 : Int) < (l53 : Nat)))
 (AddrK o1 fun b58 =>
 ∃ (m59 : Option Nat), w56.cell? (b58.add 6) = some (.map m59) ∧
 (∃ (x60 : Int), ∃ (w61 : World), Sem.run Tryz.prog (Instr.lookup 64 (.map m59) (.agg #[(.int .i64 x57), (.int .i64 x2)]) false) w56 = .ok (.int .i64 x60) w61 ∧
 (BoolK (decide ((x60 : Int) > 0))
 (Calls Tryz.prog 51 #[(.pointer o1), (.int .i64 x57), (.int .i64 x2)] w61 fun e64 w63 =>
 ∃ (p62 : Bool), e64 = .returned (.bool p62) ∧
 (BoolK (!p62)
 (K false w63)
 (I54 (IntKind.wrap .i64 (x57 + 1)) w63 ∧ μ55 (IntKind.wrap .i64 (x57 + 1)) w63 < μ55 x57 w56)))
 (I54 (IntKind.wrap .i64 (x57 + 1)) w61 ∧ μ55 (IntKind.wrap .i64 (x57 + 1)) w61 < μ55 x57 w56))))
 (K true w56)))))))))
def ann83 : Ann := (.two .nil (.two (.two .nil (.two (.two .nil .nil) .nil)) (.two (.two .nil (.one (.loop [(23, (.one (.int .i64)))] [0, 1, 2, 21, 22] (.two .nil (.two (.two .nil .nil) (.two (.one (.two .nil (.two .nil (.two (.two .nil .nil) .nil)))) .nil)))))) (.two (.two .nil (.one (.loop [(42, (.one (.int .i64)))] [0, 1, 2, 41] (.two .nil (.two (.two .nil .nil) (.two (.one (.two .nil (.two .nil (.two .nil (.two (.two .nil .nil) .nil))))) .nil)))))) (.two (.two .nil (.one (.loop [(78, (.one (.int .i64)))] [0, 1, 77] (.two .nil (.two (.two .nil .nil) (.two (.one (.two .nil (.two .nil (.two (.two .nil .nil) .nil)))) .nil)))))) (.two .nil .nil))))))
noncomputable def code83 : Code := match Tryz.f83.body with | some c => c | none => .skip
theorem wp83 (o1 : Option Addr) (x2 : Int) (a3 : Option Addr) (l3 : Nat) (c3 : Nat) (K : Bool → World → Prop) (w : World) : WP Tryz.prog tab code83 ann83 (fnQ tab Tryz.f83.results.toList [(.one .bool)] K) (argE 0 [(.pointer o1), (.int .i64 x2), (.slice a3 l3 c3)]) w = N83 o1 x2 a3 l3 c3 K w := by kernel_rfl
theorem calls83 (o1 : Option Addr) (x2 : Int) (a3 : Option Addr) (l3 : Nat) (c3 : Nat) (K : Bool → World → Prop) (w : World) (h : N83 o1 x2 a3 l3 c3 K w) : Calls Tryz.prog 83 #[(.pointer o1), (.int .i64 x2), (.slice a3 l3 c3)] w fun en w' => ∃ (p65 : Bool), en = .returned (.bool p65) ∧ K p65 w' :=
 have e : (fun en w' => ExShs [(.one .bool)] fun vs => en = .returned (tupled vs) ∧ ap [(.one .bool)] K vs fun p => p w') = (fun (en : Ending) (w' : World) => ∃ (p65 : Bool), en = .returned (.bool p65) ∧ K p65 w') := by kernel_rfl
 e ▸ fn_sound tabOk mixed Tryz.func83 (by kernel_rfl : Tryz.f83.body = some code83) ann83 [(.pointer o1), (.int .i64 x2), (.slice a3 l3 c3)] [(.one .bool)] K w (by kernel_rfl) ((wp83 o1 x2 a3 l3 c3 K w).symm ▸ h)
end Go.Proofs.YtgggbmikmmljcaaGreat

namespace Go.Proofs.YtgggbmikmmljcaaGreat
open Go Go.V Go.Proofs
open Go.RowKit (Below)
/-! (*manystrand/count.Count).reach -/
def N80 (o1 : Option Addr) (x2 : Int) (a3 : Option Addr) (l3 : Nat) (_c3 : Nat) (K : Option Addr → Nat → Nat → World → Prop) (w : World) : Prop :=
 AddrK o1 fun b4 =>
 ∃ (a5 : Option Addr) (l5 : Nat) (c5 : Nat), w.cell? (b4.add 5) = some (.slice a5 l5 c5) ∧
 ((0 ≤ (IntKind.wrap .i64 ((l5 : Nat) + 1) : Int) ∧ (IntKind.wrap .i64 ((l5 : Nat) + 1) : Int) ≤ IntKind.wrap .i64 ((l5 : Nat) + 1) ∧ ((1 : Nat) : Int) * (IntKind.wrap .i64 ((l5 : Nat) + 1)) ≤ 281474976710656 ∧ (IntKind.wrap .i64 ((l5 : Nat) + 1) : Int) ≤ 9223372036854775807) ∧
 AllocK w (madeCells (#[.bool false]) ((IntKind.wrap .i64 ((l5 : Nat) + 1) : Int).toNat * 1)) 4 fun b6 w7 =>
 AllocK w7 (#[(.int .i64 x2)]) 3 fun b8 w9 =>
 ∃ (I10 : Option Addr → Nat → Nat → World → Prop) (μ11 : Option Addr → Nat → Nat → World → Nat),
 (I10 (some b8) 1 1 w9 ∧ True) ∧
 ∀ (w12 : World) (a13 : Option Addr) (l13 : Nat) (c13 : Nat), I10 a13 l13 c13 w12 →
 BoolK (decide (((l13 : Nat) : Int) > 0))
 ((0 ≤ (IntKind.wrap .i64 ((l13 : Nat) - 1) : Int) ∧ (IntKind.wrap .i64 ((l13 : Nat) - 1) : Int) < (l13 : Nat)) ∧
 AddrK a13 fun b14 =>
 ∃ (x15 : Int), w12.cell? (b14.add ((IntKind.wrap .i64 ((l13 : Nat) - 1) : Int).toNat * 1)) = some (.int .i64 x15) ∧
 (0 ≤ (IntKind.wrap .i64 ((l13 : Nat) - 1) : Int) ∧
 ((0 ≤ (IntKind.wrap .i64 ((l13 : Nat) - 1) : Int).toNat ∧ (IntKind.wrap .i64 ((l13 : Nat) - 1) : Int).toNat ≤ c13) ∧
 (Calls Tryz.prog 44 #[(.pointer o1), (.int .i64 x15)] w12 fun e18 w17 =>
 ∃ (o16 : Option Addr), e18 = .returned (.pointer o16) ∧
 (AddrK o16 fun b19 =>
 ∃ (a20 : Option Addr) (l20 : Nat) (c20 : Nat), w17.cell? (b19.add 6) = some (.slice a20 l20 c20) ∧
 (∃ (I21 : Option Addr → Nat → Nat → Int → World → Prop) (μ22 : Option Addr → Nat → Nat → Int → World → Nat),
 (I21 (if c13 = 0 then a13 else (a13).map (·.add (0 * 1))) ((IntKind.wrap .i64 ((l13 : Nat) - 1) : Int).toNat - 0) (c13 - 0) 0 w17 ∧ True) ∧
 ∀ (w23 : World) (a24 : Option Addr) (l24 : Nat) (c24 : Nat) (x25 : Int), I21 a24 l24 c24 x25 w23 →
 BoolK (decide ((x25 : Int) < (l20 : Nat)))
 ((0 ≤ (x25 : Int) ∧ (x25 : Int) < (l20 : Nat)) ∧
 AddrK a20 fun b26 =>
 ∃ (x27 : Int), w23.cell? (b26.add ((x25 : Int).toNat * 1)) = some (.int .i64 x27) ∧
 (∃ (J28 : Bool → World → Prop),
 (∀ (w29 : World) (p30 : Bool), J28 p30 w29 →
 BoolK p30
 ((0 ≤ (x27 : Int) ∧ (x27 : Int) < ((IntKind.wrap .i64 ((l5 : Nat) + 1) : Int).toNat : Nat)) ∧
 SetK w29 (b6.add ((x27 : Int).toNat * 1)) (.bool true) fun w31 =>
 AllocK w31 (#[(.int .i64 x27)]) 3 fun b32 w33 =>
 ∃ (a34 : Option Addr), ∃ (l34 : Nat), ∃ (c34 : Nat), ∃ (w35 : World), Sem.run Tryz.prog (Builtin.append_ #[43, 43] 43 #[(.slice a24 l24 c24), (.slice (some b32) 1 1)]) w33 = .ok (.slice a34 l34 c34) w35 ∧
 (I21 a34 l34 c34 (IntKind.wrap .i64 (x25 + 1)) w35 ∧ μ22 a34 l34 c34 (IntKind.wrap .i64 (x25 + 1)) w35 < μ22 a24 l24 c24 x25 w23))
 (I21 a24 l24 c24 (IntKind.wrap .i64 (x25 + 1)) w29 ∧ μ22 a24 l24 c24 (IntKind.wrap .i64 (x25 + 1)) w29 < μ22 a24 l24 c24 x25 w23)) ∧
 ((0 ≤ (x27 : Int) ∧ (x27 : Int) < (l3 : Nat)) ∧
 AddrK a3 fun b36 =>
 ∃ (p37 : Bool), w23.cell? (b36.add ((x27 : Int).toNat * 1)) = some (.bool p37) ∧
 (BoolK p37
 ((0 ≤ (x27 : Int) ∧ (x27 : Int) < ((IntKind.wrap .i64 ((l5 : Nat) + 1) : Int).toNat : Nat)) ∧
 ∃ (p38 : Bool), w23.cell? (b6.add ((x27 : Int).toNat * 1)) = some (.bool p38) ∧
 (J28 (!p38) w23))
 (J28 false w23)))))
 (I10 a24 l24 c24 w23 ∧ μ11 a24 l24 c24 w23 < μ11 a13 l13 c13 w12)))))))
 (K (some b6) ((IntKind.wrap .i64 ((l5 : Nat) + 1) : Int).toNat) ((IntKind.wrap .i64 ((l5 : Nat) + 1) : Int).toNat) w12))
def ann80 : Ann := (.two .nil (.two .nil (.two (.two .nil (.one (.loop [(8, (.one .slice))] [0, 2, 7] (.two (.two .nil (.two .nil .nil)) (.one (.two .nil (.two .nil (.two .nil (.one (.loop [(8, (.one .slice)), (42, (.one (.int .i64)))] [0, 2, 7, 40, 41] (.two .nil (.two (.two .nil .nil) (.two (.one (.two .nil (.cut [(56, (.one .bool))] [0, 2, 7, 8, 11, 40, 41, 42] .nil (.two (.two .nil .nil) .nil)))) .nil))))))))))))) (.two .nil .nil))))
noncomputable def code80 : Code := match Tryz.f80.body with | some c => c | none => .skip
theorem wp80 (o1 : Option Addr) (x2 : Int) (a3 : Option Addr) (l3 : Nat) (c3 : Nat) (K : Option Addr → Nat → Nat → World → Prop) (w : World) : WP Tryz.prog tab code80 ann80 (fnQ tab Tryz.f80.results.toList [(.one .slice)] K) (argE 0 [(.pointer o1), (.int .i64 x2), (.slice a3 l3 c3)]) w = N80 o1 x2 a3 l3 c3 K w := by kernel_rfl
theorem calls80 (o1 : Option Addr) (x2 : Int) (a3 : Option Addr) (l3 : Nat) (c3 : Nat) (K : Option Addr → Nat → Nat → World → Prop) (w : World) (h : N80 o1 x2 a3 l3 c3 K w) : Calls Tryz.prog 80 #[(.pointer o1), (.int .i64 x2), (.slice a3 l3 c3)] w fun en w' => ∃ (a39 : Option Addr), ∃ (l39 : Nat), ∃ (c39 : Nat), en = .returned (.slice a39 l39 c39) ∧ K a39 l39 c39 w' :=
 have e : (fun en w' => ExShs [(.one .slice)] fun vs => en = .returned (tupled vs) ∧ ap [(.one .slice)] K vs fun p => p w') = (fun (en : Ending) (w' : World) => ∃ (a39 : Option Addr), ∃ (l39 : Nat), ∃ (c39 : Nat), en = .returned (.slice a39 l39 c39) ∧ K a39 l39 c39 w') := by kernel_rfl
 e ▸ fn_sound tabOk mixed Tryz.func80 (by kernel_rfl : Tryz.f80.body = some code80) ann80 [(.pointer o1), (.int .i64 x2), (.slice a3 l3 c3)] [(.one .slice)] K w (by kernel_rfl) ((wp80 o1 x2 a3 l3 c3 K w).symm ▸ h)
end Go.Proofs.YtgggbmikmmljcaaGreat

namespace Go.Proofs.YtgggbmikmmljcaaGreat
open Go Go.V Go.Proofs
open Go.RowKit (Below)
def BB (w : World) (b n : Nat) : Prop := ∃ D : List Bool, D.length = n ∧ Blk w b (bools D) 4
section
variable {w w' w2 : World} {own own' : OwnM Role} {r r1 : Raw} {S S1 : CS} {b n : Nat}
theorem BB.ext (h : BB w b n) (x : Ext w w') : BB w' b n := by obtain ⟨D, h1, h2⟩ := h; exact ⟨D, h1, h2.ext x⟩
theorem BB.at_ (h : BB w b n) {i : Nat} (hi : i < n) : ∃ p, w.cell? ⟨b, i, none⟩ = some (.bool p) := by
  obtain ⟨D, h1, h2⟩ := h; exact ⟨D[i], by rw [h2.cell, bools_get (by omega)]⟩
theorem BB.lt (h : BB w b n) : b < w.heap.size := by obtain ⟨D, h1, h2⟩ := h; exact h2.lt
theorem c83 (h : CR w own r S) (L : Lim2 S) {x : Int} (hx : S.isT x) {l c : Nat} (hb : BB w b (S.things.length + 1)) (hl : l = S.things.length + 1) (hck : S.clocks.length ≤ 1000000000) :
    Calls Tryz.prog 83 #[cp r, .int .i64 x, .slice (some ⟨b, 0, none⟩) l c] w fun en w' => ∃ p, en = .returned (.bool p) ∧ Ext w w' := by
  refine calls83 _ _ _ _ _ (fun _ w' => Ext w w') w ?_
  have Lt := L.th
  have Lf := L.fly
  refine (cAt h hx L.th).mono ?_
  rintro en w5 ⟨o, rfl, rfl, g, s, rfl, hg, hgo, hc, hr⟩
  refine ⟨_, rfl, _, by rw [add_mk]; exact (hc 1 (by omega)).trans rfl, BoolK.mk (fun _ => Ext.refl _) (fun _ => ?_)⟩
  have hfl := h.fly.len
  refine ⟨_, _, _, h.cell 11 rfl, ?_⟩
  refine ⟨fun i w' => ∃ k : Nat, i = k ∧ k ≤ S.fly.length ∧ Ext w5 w', fun i _ => S.fly.length - i.toNat, ⟨⟨0, rfl, Nat.zero_le _, Ext.refl _⟩, trivial⟩, ?_⟩
  rintro w13 i ⟨k, rfl, hk, hx13⟩
  have h13 := h.ext hx13
  refine BoolK.mk (fun t => ?_) (fun t => ?_)
  · have hlt : k < S.fly.length := by have := of_decide_eq_true t; omega
    obtain ⟨gf, lf, cf, hs, ho, hgf, hcf⟩ := h13.fly.at_ eM_len hlt
    have hs1 : r.fl.1 = some ⟨gf, 0, none⟩ := by rw [hs]
    have hcc : ∀ j, j < 8 → w13.cell? (((⟨gf, 0, none⟩ : Addr).add ((k : Int).toNat * 8)).add j) = (eM S.fly[k])[j]? := fun j hj => by rw [add_mk, add_mk, Nat.zero_add, Int.toNat_natCast]; exact hcf j hj
    refine ⟨⟨by omega, by omega⟩, ?_⟩
    rw [hs1]
    refine ⟨_, (hcc 0 (by omega)).trans rfl, _, (hcc 1 (by omega)).trans rfl, _, (hcc 2 (by omega)).trans rfl, _, (hcc 3 (by omega)).trans rfl, _, (hcc 4 (by omega)).trans rfl, _, (hcc 5 (by omega)).trans rfl, _, (hcc 6 (by omega)).trans rfl, _, _, _, (hcc 7 (by omega)).trans rfl, ?_⟩
    refine AllocK.mk fun b24 w25 hb24 hB24 hx25 => ?_
    refine Go.Proofs.YtgggbmikmmljcaaGreat.set8 hB24 rfl fun w33 hB33 but => ?_
    have hx33 : Ext w5 w33 := but.below (hx13.trans hx25) (by have := hx13.size; omega)
    have bx : BX (fun _ => none) w33 b24 _ _ := ⟨hB33, rfl⟩
    have next : (∃ k2 : Nat, IntKind.wrap .i64 ((k : Int) + 1) = k2 ∧ k2 ≤ S.fly.length ∧ Ext w5 w33) ∧ S.fly.length - (IntKind.wrap .i64 ((k : Int) + 1)).toNat < S.fly.length - (k : Int).toNat := by
      rw [wrap_succ (by omega)]; exact ⟨⟨k + 1, rfl, by omega, hx33⟩, by simp; omega⟩
    exact ⟨_, bx.at_ 3 rfl, BoolK.mk (fun _ => ⟨_, bx.at_ 4 rfl, BoolK.mk (fun _ => hx33) (fun _ => next)⟩) (fun _ => next)⟩
  · have hl2 := h.thl2
    refine ⟨_, _, _, h13.cell 5 rfl, ?_⟩
    refine ⟨fun i w' => ∃ k : Nat, i = k ∧ k ≤ S.things.length ∧ w' = w13, fun i _ => S.things.length - i.toNat, ⟨⟨0, rfl, Nat.zero_le _, rfl⟩, trivial⟩, ?_⟩
    rintro w40 i ⟨k2, rfl, hk2, rfl⟩
    refine BoolK.mk (fun t => ?_) (fun t => ?_)
    · have hlt : k2 < S.things.length := by have := of_decide_eq_true t; omega
      obtain ⟨g3, l3, c3, s3, hs3, hl3, hgo3, hc3, hc30, hr3⟩ := h13.thK hlt
      refine ⟨_, _, _, h13.cell 5 rfl, ⟨by omega, by omega⟩, ?_⟩
      have hs31 : r.th.1 = some ⟨g3, 0, none⟩ := by rw [hs3]
      rw [hs31]
      have next : (∃ k : Nat, IntKind.wrap .i64 ((k2 : Int) + 1) = k ∧ k ≤ S.things.length ∧ w40 = w40) ∧ S.things.length - (IntKind.wrap .i64 ((k2 : Int) + 1)).toNat < S.things.length - (k2 : Int).toNat := by
        rw [wrap_succ (by omega)]; exact ⟨⟨k2 + 1, rfl, by omega, rfl⟩, by simp; omega⟩
      refine ⟨_, (hc3 5 (by omega)).trans rfl, BoolK.mk (fun _ => ?_) (fun _ => next)⟩
      refine ⟨_, _, _, (hc3 6 (by omega)).trans rfl, ?_⟩
      refine (c56 _ _ _ _ x (RowR.ints hr3) (L.on _ (List.getElem_mem hlt))).mono ?_
      rintro en w48 ⟨p, rfl, rfl, rfl⟩
      refine ⟨_, rfl, BoolK.mk (fun _ => ?_) (fun _ => next)⟩
      obtain ⟨q, hq⟩ := (hb.ext hx13).at_ (i := k2 + 1) (by omega)
      refine ⟨by rw [wrap_succ (by omega)]; exact ⟨by omega, by omega⟩, q, by rw [wrap_succ (by omega), add_mk, Nat.zero_add, Int.toNat_natCast, Nat.mul_one]; exact hq, BoolK.mk (fun _ => hx13) (fun _ => next)⟩
    · have hcl := h13.clocks.len
      refine ⟨_, _, _, h13.cell 3 rfl, ?_⟩
      refine ⟨fun i w' => ∃ k : Nat, i = k ∧ k ≤ S.clocks.length ∧ w' = w40, fun i _ => S.clocks.length - i.toNat, ⟨⟨0, rfl, Nat.zero_le _, rfl⟩, trivial⟩, ?_⟩
      rintro w56 i ⟨k4, rfl, hk4, rfl⟩
      refine BoolK.mk (fun t => ?_) (fun _ => hx13)
      have hlt : k4 < S.clocks.length := by have := of_decide_eq_true t; omega
      have next : (∃ k : Nat, IntKind.wrap .i64 ((k4 : Int) + 1) = k ∧ k ≤ S.clocks.length ∧ w56 = w56) ∧ S.clocks.length - (IntKind.wrap .i64 ((k4 : Int) + 1)).toNat < S.clocks.length - (k4 : Int).toNat := by
        rw [wrap_succ (by omega)]; exact ⟨⟨k4 + 1, rfl, by omega, rfl⟩, by simp; omega⟩
      refine ⟨_, h13.cell 6 rfl, _, _, h13.lkProx ((k4 : Int), x), BoolK.mk (fun _ => ?_) (fun _ => next)⟩
      refine (c51 h13 L k4 x).mono ?_
      rintro en w63 ⟨p, rfl, _, rfl⟩
      exact ⟨_, rfl, BoolK.mk (fun _ => hx13) (fun _ => next)⟩
theorem OwnR.takeR {base e : Nat} {a : Option Addr} {l c : Nat} {xs : List Int} (h : OwnR base e 1 eI w a l c xs) {k : Nat} (hk : k ≤ xs.length) (hp : a ≠ none) : OwnR base e 1 eI w a k c (xs.take k) := by
  obtain ⟨hl, hf, ho⟩ := h
  rcases ho with ⟨h0, _⟩ | ⟨g, cap, cur, hv, hbg, hg, h3, h4, h5, h6⟩
  · cases h0; exact absurd rfl hp
  simp only [Value.slice.injEq] at hv
  obtain ⟨rfl, hlx, rfl⟩ := hv
  have htl : (xs.take k).length = k := by rw [List.length_take]; omega
  refine ⟨htl.symm, ?_⟩
  rw [htl]
  refine ⟨by rw [enc_len eI_len, htl], .inr ⟨g, c, cur, rfl, hbg, hg, by omega, h4, h5, ?_⟩⟩
  rw [← (flat_append eI_len xs k).2, ← h6, List.take_take, Nat.min_eq_left (by omega)]
theorem c80 (h : CR w own r S) (L : Lim2 S) (hon : ∀ t ∈ S.things, ∀ y ∈ t.on, S.isT y) {x : Int} (hx : S.isT x) {l c : Nat} (hb : BB w b (S.things.length + 1)) (hl : l = S.things.length + 1) :
    Calls Tryz.prog 80 #[cp r, .int .i64 x, .slice (some ⟨b, 0, none⟩) l c] w fun en w' => ∃ a' l' c', en = .returned (.slice a' l' c') ∧ (∃ b', a' = some ⟨b', 0, none⟩ ∧ l' = S.things.length + 1 ∧ BB w' b' (S.things.length + 1) ∧ w.heap.size ≤ b' ∧ Ext w w') := by
  refine calls80 _ _ _ _ _ _ w ?_
  have hl2 := h.thl2
  have Lt := L.th
  refine ⟨_, _, _, h.cell 5 rfl, ?_⟩
  have e0 : IntKind.wrap .i64 (((r.th.2.1 : Nat) : Int) + 1) = ((S.things.length + 1 : Nat) : Int) := by rw [hl2]; exact wrap_succ (by omega)
  rw [e0, Int.toNat_natCast]
  refine ⟨by omega, AllocK.mk fun b6 w7 hb6 hB6 hx7 => AllocK.mk fun b8 w9 hb8 hB8 hx8 => ?_⟩
  rw [made_bools] at hB6
  have hB6 := hB6.ext hx8
  have hx9 : Ext w w9 := hx7.trans hx8
  have s7 := hx7.size
  have st : OwnR w.heap.size 3 1 eI w9 (some ⟨b8, 0, none⟩) 1 1 [x] := ⟨rfl, by simp [eI], .inr ⟨b8, 1, _, rfl, by omega, hB8, Nat.le_refl _, by decide, by simp, by simp [eI]⟩⟩
  refine ⟨fun a l c w' => ∃ ls : List Int, OwnR w.heap.size 3 1 eI w' a l c ls ∧ (∀ y ∈ ls, S.isT y) ∧ BB w' b6 (S.things.length + 1) ∧ Ext w w' ∧ 2 * cntF (decB w' b6 (S.things.length + 1)) + l ≤ 2 * (S.things.length + 1) + 1,
    fun _ l _ w' => 2 * cntF (decB w' b6 (S.things.length + 1)) + l, ⟨⟨[x], st, fun y hy => by simp at hy; subst hy; exact hx, ⟨_, by simp, hB6⟩, hx9, ?_⟩, trivial⟩, ?_⟩
  · have e1 := decB_eq hB6
    rw [List.length_replicate] at e1
    rw [e1]
    have : cntF (List.replicate (S.things.length + 1) false) ≤ S.things.length + 1 := by
      unfold cntF; refine Nat.le_trans List.countP_le_length ?_; simp
    omega
  rintro w12 a l1 c1 ⟨ls, hO, hls, hBB, hx12, hmu⟩
  have hll : l1 = ls.length := hO.1
  refine BoolK.mk (fun t => ?_) (fun _ => ⟨b6, rfl, rfl, hBB, by omega, hx12⟩)
  have t := of_decide_eq_true t
  have ew : IntKind.wrap .i64 (((l1 : Nat) : Int) - 1) = ((l1 - 1 : Nat) : Int) := by rw [wrap_id] <;> omega
  rw [ew, Int.toNat_natCast]
  have hlt : l1 - 1 < ls.length := by omega
  obtain ⟨g, rfl, hbg, hg, hc⟩ := hO.cellAt eI_len (List.getElem?_eq_getElem hlt)
  have hcap : l1 ≤ c1 := by
    obtain ⟨_, _, ho⟩ := hO
    rcases ho with ⟨h0, _⟩ | ⟨g', cap, cur, hv, _, _, h3, _⟩
    · cases h0
    · simp only [Value.slice.injEq] at hv; omega
  have h12 := h.ext hx12
  refine ⟨⟨by omega, by omega⟩, ls[l1 - 1], by rw [add_mk, Nat.zero_add]; exact (hc 0 (by omega)).trans rfl, by omega, ⟨by omega, by omega⟩, ?_⟩
  have hT : S.isT ls[l1 - 1] := hls _ (List.getElem_mem hlt)
  refine (cAt h12 hT L.th).mono ?_
  rintro en w17 ⟨o, rfl, rfl, g2, s2, rfl, hg2, hgo2, hc2, hr2⟩
  refine ⟨_, rfl, _, _, _, by rw [add_mk]; exact (hc2 6 (by omega)).trans rfl, ?_⟩
  have e3 : (if c1 = 0 then some (⟨g, 0, none⟩ : Addr) else (some (⟨g, 0, none⟩ : Addr)).map (·.add (0 * 1))) = some ⟨g, 0, none⟩ := by split <;> simp [add_mk]
  rw [e3]
  have hO2 := OwnR.takeR hO (k := l1 - 1) (by omega) (by simp)
  have hol := L.on _ (CS.th_mem hT)
  have honT := hon _ (CS.th_mem hT)
  have hr2l := hr2.len
  obtain ⟨D0, hD0l, hD0⟩ := hBB
  have dec0 := decB_eq hD0
  rw [hD0l] at dec0
  have hmu0 : 2 * cntF D0 + l1 ≤ 2 * (S.things.length + 1) + 1 := by rw [dec0] at hmu; exact hmu
  refine ⟨fun a l c i w' => ∃ (k : Nat) (ls2 : List Int) (D : List Bool), i = k ∧ k ≤ (S.th ls[l1 - 1]).on.length ∧ OwnR w.heap.size 3 1 eI w' a l c ls2 ∧ (∀ y ∈ ls2, S.isT y) ∧ D.length = S.things.length + 1 ∧ Blk w' b6 (bools D) 4 ∧ Ext w w' ∧ 2 * cntF D + l ≤ 2 * cntF D0 + (l1 - 1),
    fun _ _ _ i _ => (S.th ls[l1 - 1]).on.length - i.toNat, ⟨⟨0, _, D0, rfl, Nat.zero_le _, hO2, fun y hy => hls y (List.mem_of_mem_take hy), hD0l, hD0, hx12, by omega⟩, trivial⟩, ?_⟩
  rintro w23 a24 l24 c24 i ⟨k, ls2, D, rfl, hk, hO3, hls2, hDl, hD, hx23, hmu3⟩
  have h23 := h.ext hx23
  refine BoolK.mk (fun t => ?_) (fun t => ?_)
  · have hlt2 : k < (S.th ls[l1 - 1]).on.length := by have := of_decide_eq_true t; omega
    obtain ⟨g3, s3, hg3, hgo3, hc3, hr3⟩ := h23.thAt2 hT
    have hgg : some (⟨g2, (ls[l1 - 1] - 1).toNat * 7, none⟩ : Addr) = some ⟨g3, (ls[l1 - 1] - 1).toNat * 7, none⟩ := hg2.symm.trans hg3
    obtain rfl : g2 = g3 := by simpa using hgg
    -- the row of what it holds stands
    have hr23 : RowR own (.on (ls[l1 - 1] - 1).toNat) 3 1 eI w23 s2 (S.th ls[l1 - 1]).on := by
      have c1' := hc2 6 (by omega)
      have c2' := hc3 6 (by omega)
      have hlow : g2 < w.heap.size := by
        rcases Nat.lt_or_ge g2 w.heap.size with h9 | h9
        · exact h9
        · have := h.top g2 h9; rw [hgo2] at this; cases this
      have same : w23.heap[g2]? = w17.heap[g2]? := (hx23.block g2 hlow).trans (hx12.block g2 hlow).symm
      have e9 : w23.cell? ⟨g2, (ls[l1 - 1] - 1).toNat * 7 + 6, none⟩ = w17.cell? ⟨g2, (ls[l1 - 1] - 1).toNat * 7 + 6, none⟩ := World.cell?_of_block same
      rw [c1', c2'] at e9
      have e10 : slv s3 = slv s2 := by simpa [eTS] using e9
      have : s3 = s2 := by simp only [slv, Value.slice.injEq] at e10; exact Prod.ext e10.1 (Prod.ext e10.2.1 e10.2.2)
      rw [← this]; exact hr3
    obtain ⟨go, lo, co, hso, hoo, hgo, hco⟩ := hr23.at_ eI_len hlt2
    have hso1 : s2.1 = some ⟨go, 0, none⟩ := by rw [hso]
    refine ⟨⟨by omega, by omega⟩, ?_⟩
    rw [hso1]
    refine ⟨(S.th ls[l1 - 1]).on[k], by rw [add_mk, Nat.zero_add, Int.toNat_natCast]; exact (hco 0 (by omega)).trans rfl, ?_⟩
    have hyT := honT _ (List.getElem_mem hlt2)
    obtain ⟨y1, y2⟩ := hyT
    obtain ⟨yn, hyn⟩ := Int.eq_ofNat_of_zero_le (show 0 ≤ (S.th ls[l1 - 1]).on[k] by omega)
    have hynl : yn < D.length := by omega
    have next : ∀ {w' : World} {a l c} (ls3 : List Int) (D3 : List Bool), OwnR w.heap.size 3 1 eI w' a l c ls3 → (∀ y ∈ ls3, S.isT y) → D3.length = S.things.length + 1 → Blk w' b6 (bools D3) 4 → Ext w w' → 2 * cntF D3 + l ≤ 2 * cntF D0 + (l1 - 1) →
        (∃ (k2 : Nat) (ls2 : List Int) (D : List Bool), IntKind.wrap .i64 ((k : Int) + 1) = k2 ∧ k2 ≤ (S.th ls[l1 - 1]).on.length ∧ OwnR w.heap.size 3 1 eI w' a l c ls2 ∧ (∀ y ∈ ls2, S.isT y) ∧ D.length = S.things.length + 1 ∧ Blk w' b6 (bools D) 4 ∧ Ext w w' ∧ 2 * cntF D + l ≤ 2 * cntF D0 + (l1 - 1)) ∧
        (S.th ls[l1 - 1]).on.length - (IntKind.wrap .i64 ((k : Int) + 1)).toNat < (S.th ls[l1 - 1]).on.length - (k : Int).toNat := by
      intro w' a l c ls3 D3 a1 a2 a3 a4 a5 a6
      rw [wrap_succ (by omega)]
      exact ⟨⟨k + 1, ls3, D3, rfl, by omega, a1, a2, a3, a4, a5, a6⟩, by simp; omega⟩
    rw [hyn]
    refine ⟨fun p w' => w' = w23 ∧ (p = true → D[yn]? = some false), ?_, ?_⟩
    · rintro w29 p ⟨rfl, hp⟩
      refine BoolK.mk (fun tp => ?_) (fun _ => next ls2 D hO3 hls2 hDl hD hx23 hmu3)
      have hDf := hp tp
      refine ⟨⟨by omega, by omega⟩, ?_⟩
      rw [add_mk, Nat.zero_add, Int.toNat_natCast, Nat.mul_one]
      refine SetK.mk hD (by simp [bools]; omega) fun w31 hB31 but => ?_
      rw [bools_set] at hB31
      have hcf := cntF_set hDf
      have hx31 : Ext w w31 := but.below hx23 (by omega)
      have ne6 : ∀ j, (Value.slice a24 l24 c24).ownBlock = some j → j ≠ b6 := fun j hj => OwnR.ne hO3 hD (by decide) j hj
      have hO31 : OwnR w.heap.size 3 1 eI w31 a24 l24 c24 ls2 := hO3.kept fun j hj => but.block j (ne6 j hj)
      have hll2 : l24 = ls2.length := hO3.1
      refine OwnR.push (te := 3) ((yn : Nat) : Int) sltI hO31 hx31.size eI_len eI_one (by omega) rfl fun a' c' w35 hO35 hgr hob => ?_
      refine next (ls2 ++ [((yn : Nat) : Int)]) (D.set yn true) hO35 (fun y hy => ?_) (by simpa using hDl) ((hgr.block b6 hB31.lt fun e => ne6 b6 e.symm rfl).trans hB31) ?_ (by omega)
      · rcases List.mem_append.1 hy with hy | hy
        · exact hls2 y hy
        · have : y = ((yn : Nat) : Int) := by simpa using hy
          subst this; exact ⟨by omega, by omega⟩
      · have := hO31.below hx31.size hgr
        exact Below.trans hx31 this
    · obtain ⟨q, hq⟩ := (hb.ext hx23).at_ (i := yn) (by omega)
      refine ⟨⟨by omega, by omega⟩, q, by rw [add_mk, Nat.zero_add, Int.toNat_natCast, Nat.mul_one]; exact hq, BoolK.mk (fun _ => ⟨⟨by omega, by omega⟩, D[yn], by rw [add_mk, Nat.zero_add, Int.toNat_natCast, Nat.mul_one, hD.cell, bools_get hynl], rfl, fun e => ?_⟩) (fun _ => ⟨rfl, fun e => by cases e⟩)⟩
      rw [List.getElem?_eq_getElem hynl]; simpa using e
  · refine ⟨⟨ls2, hO3, hls2, ⟨D, hDl, hD⟩, hx23, ?_⟩, ?_⟩
    · have dec3 := decB_eq hD
      rw [hDl] at dec3; rw [dec3]; omega
    · have dec3 := decB_eq hD
      rw [hDl] at dec3
      show 2 * cntF (decB w23 b6 (S.things.length + 1)) + l24 < 2 * cntF (decB w17 b6 (S.things.length + 1)) + l1
      rw [dec3, dec0]; omega
end
end Go.Proofs.YtgggbmikmmljcaaGreat

namespace Go.Proofs.YtgggbmikmmljcaaGreat
open Go Go.V Go.Proofs
open Go.RowKit (Below)
/-! slices.IndexFunc[[]int,int] -/
def N93 (a1 : Option Addr) (l1 : Nat) (_c1 : Nat) (g2 : FuncId) (k3 : Array Value) (K : Int → World → Prop) (w : World) : Prop :=
 ∃ (I4 : Int → World → Prop) (μ5 : Int → World → Nat),
 (I4 0 w ∧ True) ∧
 ∀ (w6 : World) (x7 : Int), I4 x7 w6 →
 BoolK (decide ((x7 : Int) < (l1 : Nat)))
 ((0 ≤ (x7 : Int) ∧ (x7 : Int) < (l1 : Nat)) ∧
 AddrK a1 fun b8 =>
 ∃ (x9 : Int), w6.cell? (b8.add ((x7 : Int).toNat * 1)) = some (.int .i64 x9) ∧
 (Enters Tryz.prog g2 ∧
 (Calls Tryz.prog g2 (callArgs [] [(.int .i64 x9)] k3.toList) w6 fun e12 w11 =>
 ∃ (p10 : Bool), e12 = .returned (.bool p10) ∧
 (BoolK p10
 (K x7 w11)
 (I4 (IntKind.wrap .i64 (x7 + 1)) w11 ∧ μ5 (IntKind.wrap .i64 (x7 + 1)) w11 < μ5 x7 w6)))))
 (K (-1) w6)
def ann93 : Ann := (.two .nil (.two (.two .nil (.one (.loop [(8, (.one (.int .i64)))] [0, 1, 7] (.two .nil (.two (.two .nil .nil) (.two (.one (.two .nil (.two .nil (.two (.two .nil .nil) .nil)))) .nil)))))) (.two .nil .nil)))
noncomputable def code93 : Code := match Tryz.f93.body with | some c => c | none => .skip
theorem wp93 (a1 : Option Addr) (l1 : Nat) (c1 : Nat) (g2 : FuncId) (k3 : Array Value) (K : Int → World → Prop) (w : World) : WP Tryz.prog tab code93 ann93 (fnQ tab Tryz.f93.results.toList [(.one (.int .i64))] K) (argE 0 [(.slice a1 l1 c1), (.func (.func g2) #[] k3)]) w = N93 a1 l1 c1 g2 k3 K w := by kernel_rfl
theorem calls93 (a1 : Option Addr) (l1 : Nat) (c1 : Nat) (g2 : FuncId) (k3 : Array Value) (K : Int → World → Prop) (w : World) (h : N93 a1 l1 c1 g2 k3 K w) : Calls Tryz.prog 93 #[(.slice a1 l1 c1), (.func (.func g2) #[] k3)] w fun en w' => ∃ (x13 : Int), en = .returned (.int .i64 x13) ∧ K x13 w' :=
 have e : (fun en w' => ExShs [(.one (.int .i64))] fun vs => en = .returned (tupled vs) ∧ ap [(.one (.int .i64))] K vs fun p => p w') = (fun (en : Ending) (w' : World) => ∃ (x13 : Int), en = .returned (.int .i64 x13) ∧ K x13 w') := by kernel_rfl
 e ▸ fn_sound tabOk mixed Tryz.func93 (by kernel_rfl : Tryz.f93.body = some code93) ann93 [(.slice a1 l1 c1), (.func (.func g2) #[] k3)] [(.one (.int .i64))] K w (by kernel_rfl) ((wp93 a1 l1 c1 g2 k3 K w).symm ▸ h)
end Go.Proofs.YtgggbmikmmljcaaGreat

namespace Go.Proofs.YtgggbmikmmljcaaGreat
open Go Go.V Go.Proofs
open Go.RowKit (Below)
/-! slices.ContainsFunc[[]int,int] -/
def N81 (a1 : Option Addr) (l1 : Nat) (c1 : Nat) (g2 : FuncId) (k3 : Array Value) (K : Bool → World → Prop) (w : World) : Prop :=
 Calls Tryz.prog 93 #[(.slice a1 l1 c1), (.func (.func g2) #[] k3)] w fun e6 w5 =>
 ∃ (x4 : Int), e6 = .returned (.int .i64 x4) ∧
 (K (decide ((x4 : Int) ≥ 0)) w5)
def ann81 : Ann := (.two .nil (.two .nil .nil))
noncomputable def code81 : Code := match Tryz.f81.body with | some c => c | none => .skip
theorem wp81 (a1 : Option Addr) (l1 : Nat) (c1 : Nat) (g2 : FuncId) (k3 : Array Value) (K : Bool → World → Prop) (w : World) : WP Tryz.prog tab code81 ann81 (fnQ tab Tryz.f81.results.toList [(.one .bool)] K) (argE 0 [(.slice a1 l1 c1), (.func (.func g2) #[] k3)]) w = N81 a1 l1 c1 g2 k3 K w := by kernel_rfl
theorem calls81 (a1 : Option Addr) (l1 : Nat) (c1 : Nat) (g2 : FuncId) (k3 : Array Value) (K : Bool → World → Prop) (w : World) (h : N81 a1 l1 c1 g2 k3 K w) : Calls Tryz.prog 81 #[(.slice a1 l1 c1), (.func (.func g2) #[] k3)] w fun en w' => ∃ (p7 : Bool), en = .returned (.bool p7) ∧ K p7 w' :=
 have e : (fun en w' => ExShs [(.one .bool)] fun vs => en = .returned (tupled vs) ∧ ap [(.one .bool)] K vs fun p => p w') = (fun (en : Ending) (w' : World) => ∃ (p7 : Bool), en = .returned (.bool p7) ∧ K p7 w') := by kernel_rfl
 e ▸ fn_sound tabOk mixed Tryz.func81 (by kernel_rfl : Tryz.f81.body = some code81) ann81 [(.slice a1 l1 c1), (.func (.func g2) #[] k3)] [(.one .bool)] K w (by kernel_rfl) ((wp81 a1 l1 c1 g2 k3 K w).symm ▸ h)
end Go.Proofs.YtgggbmikmmljcaaGreat

namespace Go.Proofs.YtgggbmikmmljcaaGreat
open Go Go.V Go.Proofs
open Go.RowKit (Below)
/-! (*manystrand/count.Count).Cycles$1 -/
def N82 (x1 : Int) (o2 : Option Addr) (o3 : Option Addr) (K : Bool → World → Prop) (w : World) : Prop :=
 AddrK o2 fun b4 =>
 ∃ (o5 : Option Addr), w.cell? b4 = some (.pointer o5) ∧
 (AddrK o3 fun b6 =>
 ∃ (a7 : Option Addr) (l7 : Nat) (c7 : Nat), w.cell? b6 = some (.slice a7 l7 c7) ∧
 (Calls Tryz.prog 83 #[(.pointer o5), (.int .i64 x1), (.slice a7 l7 c7)] w fun e10 w9 =>
 ∃ (p8 : Bool), e10 = .returned (.bool p8) ∧
 (K (!p8) w9)))
def ann82 : Ann := (.two .nil (.two .nil .nil))
noncomputable def code82 : Code := match Tryz.f82.body with | some c => c | none => .skip
theorem wp82 (x1 : Int) (o2 : Option Addr) (o3 : Option Addr) (K : Bool → World → Prop) (w : World) : WP Tryz.prog tab code82 ann82 (fnQ tab Tryz.f82.results.toList [(.one .bool)] K) (argE 0 [(.int .i64 x1), (.pointer o2), (.pointer o3)]) w = N82 x1 o2 o3 K w := by kernel_rfl
theorem calls82 (x1 : Int) (o2 : Option Addr) (o3 : Option Addr) (K : Bool → World → Prop) (w : World) (h : N82 x1 o2 o3 K w) : Calls Tryz.prog 82 #[(.int .i64 x1), (.pointer o2), (.pointer o3)] w fun en w' => ∃ (p11 : Bool), en = .returned (.bool p11) ∧ K p11 w' :=
 have e : (fun en w' => ExShs [(.one .bool)] fun vs => en = .returned (tupled vs) ∧ ap [(.one .bool)] K vs fun p => p w') = (fun (en : Ending) (w' : World) => ∃ (p11 : Bool), en = .returned (.bool p11) ∧ K p11 w') := by kernel_rfl
 e ▸ fn_sound tabOk mixed Tryz.func82 (by kernel_rfl : Tryz.f82.body = some code82) ann82 [(.int .i64 x1), (.pointer o2), (.pointer o3)] [(.one .bool)] K w (by kernel_rfl) ((wp82 x1 o2 o3 K w).symm ▸ h)
end Go.Proofs.YtgggbmikmmljcaaGreat

namespace Go.Proofs.YtgggbmikmmljcaaGreat
open Go Go.V Go.Proofs
open Go.RowKit (Below)
section
variable {w w' w2 : World} {own own' : OwnM Role} {r r1 : Raw} {S S1 : CS} {b n : Nat}
def AsksI (w0 : World) (xs : List Int) (g : FuncId) (cap : Array Value) : Prop :=
  ∀ (x : Int) (w : World), x ∈ xs → Ext w0 w → Calls Tryz.prog g (callArgs [] [.int .i64 x] cap.toList) w fun en w' => ∃ p, en = .returned (.bool p) ∧ Ext w w'
theorem c93 {g : FuncId} {cap : Array Value} (hg : Enters Tryz.prog g) {a : Option Addr} {l c : Nat} {xs : List Int} (hx : Ints w a l xs) (hA : AsksI w xs g cap) (hl : xs.length ≤ 1000000000) :
    Calls Tryz.prog 93 #[.slice a l c, .func (.func g) #[] cap] w fun en w' => ∃ i, en = .returned (.int .i64 i) ∧ Ext w w' := by
  refine calls93 _ _ _ _ _ (fun _ w' => Ext w w') w ?_
  have e1 := hx.1
  refine ⟨fun i w' => ∃ k : Nat, i = k ∧ k ≤ xs.length ∧ Ext w w', fun i _ => xs.length - i.toNat, ⟨⟨0, rfl, Nat.zero_le _, Ext.refl _⟩, trivial⟩, ?_⟩
  rintro w6 i ⟨k, rfl, hk, hx6⟩
  refine BoolK.mk (fun t => ?_) (fun _ => hx6)
  have hlt : k < xs.length := by have := of_decide_eq_true t; omega
  obtain ⟨b, o, rfl, hc⟩ := intAt hx w6 hx6 hlt
  refine ⟨⟨by omega, by omega⟩, xs[k], by rw [add_mk]; simpa using hc, hg, ?_⟩
  refine (hA xs[k] w6 (List.getElem_mem hlt) hx6).mono ?_
  rintro en w11 ⟨p, rfl, hx11⟩
  refine ⟨_, rfl, BoolK.mk (fun _ => hx6.trans hx11) (fun _ => ?_)⟩
  rw [wrap_succ (by omega)]
  exact ⟨⟨k + 1, rfl, by omega, hx6.trans hx11⟩, by simp; omega⟩
theorem c81 {g : FuncId} {cap : Array Value} (hg : Enters Tryz.prog g) {a : Option Addr} {l c : Nat} {xs : List Int} (hx : Ints w a l xs) (hA : AsksI w xs g cap) (hl : xs.length ≤ 1000000000) :
    Calls Tryz.prog 81 #[.slice a l c, .func (.func g) #[] cap] w fun en w' => ∃ p, en = .returned (.bool p) ∧ Ext w w' := by
  refine calls81 _ _ _ _ _ (fun _ w' => Ext w w') w ?_
  refine (c93 hg hx hA hl).mono ?_
  rintro en w5 ⟨i, rfl, hx5⟩
  exact ⟨_, rfl, hx5⟩
theorem asksCycles (h : CR w own r S) (L : Lim2 S) (hck : S.clocks.length ≤ 1000000000) {xs : List Int} (hxs : ∀ x ∈ xs, S.isT x) {b2 b66 bi l c t2 t66 : Nat} (h2 : Blk w b2 #[.pointer (some ⟨r.b, 0, none⟩)] t2) (h66 : Blk w b66 #[.slice (some ⟨bi, 0, none⟩) l c] t66) (hb : BB w bi (S.things.length + 1)) (hl : l = S.things.length + 1) :
    AsksI w xs 82 #[.pointer (some ⟨b2, 0, none⟩), .pointer (some ⟨b66, 0, none⟩)] := by
  intro x w1 hx hx1
  refine calls82 _ _ _ (fun _ w' => Ext w1 w') w1 ?_
  refine ⟨_, by rw [(h2.ext hx1).cell]; rfl, _, _, _, by rw [(h66.ext hx1).cell]; rfl, ?_⟩
  refine (c83 (h.ext hx1) L (hxs x hx) (hb.ext hx1) hl hck).mono ?_
  rintro en w9 ⟨p, rfl, hx9⟩
  exact ⟨_, rfl, hx9⟩
end
end Go.Proofs.YtgggbmikmmljcaaGreat

namespace Go.Proofs.YtgggbmikmmljcaaGreat
open Go Go.V Go.Proofs
open Go.RowKit (Below)
def GoodT (w : World) (n : Nat) (s : SL) : Prop := ∃ b c, s = (some ⟨b, 0, none⟩, n, c) ∧ BB w b n
structure CI (w0 : World) (rb n : Nat) (b2 b11 b28 b46 : Nat) (D : List Bool) (T : List SL) (SS : List SL) (LL : List (List Int)) (s : SL) (w : World) : Prop where
  x : Ext w0 w
  x2 : Blk w b2 #[.pointer (some ⟨rb, 0, none⟩)] 23
  live : Blk w b11 (bools D) 4
  dl : D.length = n + 1
  to : Blk w b28 (T.map slv).toArray 84
  tl : T.length = n + 1
  good : ∀ (i : Nat) (s : SL), 1 ≤ i → D[i]? = some true → T[i]? = some s → GoodT w (n + 1) s
  done : BB w b46 (n + 1)
  ne : b46 ≠ b11
  b46n : w0.heap.size ≤ b46
  out : OwnR w0.heap.size 43 1 eS w s.1 s.2.1 s.2.2 SS
  sl : SS.length = LL.length
  lists : ∀ (i : Nat) (q : SL) (ys : List Int), SS[i]? = some q → LL[i]? = some ys → OwnR w0.heap.size 3 1 eI w q.1 q.2.1 q.2.2 ys
section
variable {w0 w w' : World} {rb n b2 b11 b28 b46 : Nat} {D : List Bool} {T SS : List SL} {LL : List (List Int)} {s : SL}
theorem GoodT.ext {q : SL} (h : GoodT w n q) (x : Ext w w') : GoodT w' n q := by obtain ⟨b, c, h1, h2⟩ := h; exact ⟨b, c, h1, h2.ext x⟩
theorem CI.ext (h : CI w0 rb n b2 b11 b28 b46 D T SS LL s w) (x : Ext w w') : CI w0 rb n b2 b11 b28 b46 D T SS LL s w' :=
  ⟨h.x.trans x, h.x2.ext x, h.live.ext x, h.dl, h.to.ext x, h.tl, fun i s h1 h2 h3 => (h.good i s h1 h2 h3).ext x, h.done.ext x, h.ne, h.b46n, h.out.ext x, h.sl, fun i q ys h1 h2 => (h.lists i q ys h1 h2).ext x⟩
theorem CI.put (h : CI w0 rb n b2 b11 b28 b46 D T SS LL s w) {bw : Nat} (hb : BB w bw (n + 1)) (hb' : BB w' bw (n + 1)) (k : But bw w w') (hne : bw ≠ b11) (hn : w0.heap.size ≤ bw) : CI w0 rb n b2 b11 b28 b46 D T SS LL s w' := by
  obtain ⟨E, hE, hB⟩ := hb
  have tne : ∀ {b t : Nat} {cs : Array Value}, Blk w b cs t → t ≠ 4 → b ≠ bw := fun {b t cs} h1 h2 e => by
    subst e
    have h3 : w.heap[b]? = _ := h1
    have h4 : w.heap[b]? = _ := hB
    rw [h3] at h4; cases h4; exact h2 rfl
  have keep : ∀ {b m : Nat}, BB w b m → m = n + 1 → BB w' b m := fun {b m} h1 hm => by
    subst hm
    by_cases e : b = bw
    · subst e; exact hb'
    · obtain ⟨F, hF, hC⟩ := h1; exact ⟨F, hF, k.blk hC e⟩
  refine ⟨k.below h.x hn, k.blk h.x2 (tne h.x2 (by decide)), k.blk h.live (Ne.symm hne), h.dl, k.blk h.to (tne h.to (by decide)), h.tl, fun i s h1 h2 h3 => ?_, keep h.done rfl, h.ne, h.b46n, h.out.kept fun j hj => k.block j (OwnR.ne h.out hB (by decide) j hj), h.sl,
    fun i q ys h1 h2 => (h.lists i q ys h1 h2).kept fun j hj => k.block j (OwnR.ne (h.lists i q ys h1 h2) hB (by decide) j hj)⟩
  obtain ⟨b, c, e1, e2⟩ := h.good i s h1 h2 h3
  exact ⟨b, c, e1, keep e2 rfl⟩
theorem OwnR.blkOf {α : Type} {base e sz : Nat} {enc : α → List Value} {a : Option Addr} {l c : Nat} {xs : List α} (h : OwnR base e sz enc w a l c xs) : ∀ j, (Value.slice a l c).ownBlock = some j → ∃ cur, Blk w j cur e := by
  obtain ⟨_, _, ho⟩ := h
  rcases ho with ⟨h0, _⟩ | ⟨g, cap, cur, hv, hbg, hg, _⟩
  · cases h0; intro j hj; cases hj
  · rw [hv]; intro j hj; cases hj; exact ⟨cur, hg⟩
theorem CI.grow (h : CI w0 rb n b2 b11 b28 b46 D T SS LL s w) {a : Option Addr} {l c base : Nat} {xs : List Int} (ho : OwnR base 3 1 eI w a l c xs) (hb : w0.heap.size ≤ base) (hbs : base ≤ w.heap.size) (hg : w.grownBy w' (Value.slice a l c).ownBlock)
    (hap : ∀ (i : Nat) (q : SL) (ys : List Int), SS[i]? = some q → LL[i]? = some ys → ∀ j, (Value.slice q.1 q.2.1 q.2.2).ownBlock = some j → j < base) : CI w0 rb n b2 b11 b28 b46 D T SS LL s w' := by
  have keepB : ∀ {b t : Nat} {cs : Array Value}, Blk w b cs t → t ≠ 3 → Blk w' b cs t := fun {b t cs} h1 h2 => (hg.block b h1.lt fun e => OwnR.ne ho h1 h2 b e.symm rfl).trans h1
  have keepBB : ∀ {b m : Nat}, BB w b m → BB w' b m := fun {b m} h1 => by obtain ⟨F, hF, hC⟩ := h1; exact ⟨F, hF, keepB hC (by decide)⟩
  have hlow : Below w0.heap.size w w' := (grown_below hg (fun k hk => (ho.lt k hk).1) hbs : Below base w w').mono hb
  refine ⟨Below.trans h.x hlow, keepB h.x2 (by decide), keepB h.live (by decide), h.dl, keepB h.to (by decide), h.tl, fun i s h1 h2 h3 => ?_, keepBB h.done, h.ne, h.b46n, h.out.kept fun j hj => ?_, h.sl, fun i q ys h1 h2 => (h.lists i q ys h1 h2).kept fun j hj => ?_⟩
  · obtain ⟨b, c, e1, e2⟩ := h.good i s h1 h2 h3
    exact ⟨b, c, e1, keepBB e2⟩
  · obtain ⟨cur, hC⟩ := OwnR.blkOf h.out j hj
    exact hg.block j hC.lt fun e => OwnR.ne ho hC (by decide) j e.symm rfl
  · refine hg.block j ((h.lists i q ys h1 h2).lt j hj).2 fun e => ?_
    have := (ho.lt j e.symm).1
    have := hap i q ys h1 h2 j hj
    omega
theorem CI.pushed {a : Option Addr} {l c : Nat} (h : CI w0 rb n b2 b11 b28 b46 D T SS LL (a, l, c) w) {q : SL} {ys : List Int} (hq : OwnR w0.heap.size 3 1 eI w q.1 q.2.1 q.2.2 ys) {a' : Option Addr} {c' : Nat}
    (ho : OwnR w0.heap.size 43 1 eS w' a' (SS.length + 1) c' (SS ++ [q])) (hg : w.grownBy w' (Value.slice a l c).ownBlock) : CI w0 rb n b2 b11 b28 b46 D T (SS ++ [q]) (LL ++ [ys]) (a', SS.length + 1, c') w' := by
  have keepB : ∀ {b t : Nat} {cs : Array Value}, Blk w b cs t → t ≠ 43 → Blk w' b cs t := fun {b t cs} h1 h2 => (hg.block b h1.lt fun e => OwnR.ne h.out h1 h2 b e.symm rfl).trans h1
  have keepBB : ∀ {b m : Nat}, BB w b m → BB w' b m := fun {b m} h1 => by obtain ⟨F, hF, hC⟩ := h1; exact ⟨F, hF, keepB hC (by decide)⟩
  have keepI : ∀ {q : SL} {ys : List Int}, OwnR w0.heap.size 3 1 eI w q.1 q.2.1 q.2.2 ys → OwnR w0.heap.size 3 1 eI w' q.1 q.2.1 q.2.2 ys := fun {q ys} h1 => h1.kept fun j hj => by
    obtain ⟨cur, hC⟩ := OwnR.blkOf h1 j hj
    exact hg.block j hC.lt fun e => OwnR.ne h.out hC (by decide) j e.symm rfl
  refine ⟨Below.trans h.x (h.out.below h.x.size hg), keepB h.x2 (by decide), keepB h.live (by decide), h.dl, keepB h.to (by decide), h.tl, fun i s h1 h2 h3 => ?_, keepBB h.done, h.ne, h.b46n, ho, by simp [h.sl], fun i q2 ys2 h1 h2 => ?_⟩
  · obtain ⟨b, c, e1, e2⟩ := h.good i s h1 h2 h3
    exact ⟨b, c, e1, keepBB e2⟩
  · rcases Nat.lt_or_ge i SS.length with hi | hi
    · rw [List.getElem?_append_left hi] at h1
      rw [List.getElem?_append_left (by rw [← h.sl]; exact hi)] at h2
      exact keepI (h.lists i q2 ys2 h1 h2)
    · rw [List.getElem?_append_right hi] at h1
      rw [List.getElem?_append_right (by rw [← h.sl]; exact hi), ← h.sl] at h2
      have : i - SS.length = 0 := by have := (List.getElem?_eq_some_iff.1 h1).1; simp at this; omega
      rw [this] at h1 h2
      simp at h1 h2; subst h1; subst h2; exact keepI hq
theorem CI.lists2 {a : Option Addr} {l c : Nat} (h : CI w0 rb n b2 b11 b28 b46 D T SS LL (a, l, c) w) : Go.V.Rows 1 (Go.V.RSl 1 Go.V.RInt) w a l LL :=
  h.out.rows eS_len (Go.V.RSl 1 Go.V.RInt) h.sl.symm fun f i s d hs hd hf => ⟨s.1, s.2.1, s.2.2, by rw [hf 0 (by omega)]; rfl, (h.lists i s d hs hd).ints⟩
end
end Go.Proofs.YtgggbmikmmljcaaGreat

namespace Go.Proofs.YtgggbmikmmljcaaGreat
open Go Go.V Go.Proofs
open Go.RowKit (Below)
/-! (*manystrand/count.Count).Cycles -/
def N41 (o1 : Option Addr) (K : Option Addr → Nat → Nat → World → Prop) (w : World) : Prop :=
 AllocK w (#[(.pointer o1)]) 23 fun b2 w3 =>
 ∃ (o4 : Option Addr), w3.cell? b2 = some (.pointer o4) ∧
 (Calls Tryz.prog 21 #[(.pointer o4)] w3 fun e7 w6 =>
 ∃ (p5 : Bool), e7 = .returned (.bool p5) ∧
 (BoolK p5
 (K none 0 0 w6)
 (∃ (o8 : Option Addr), w6.cell? b2 = some (.pointer o8) ∧
 (AddrK o8 fun b9 =>
 ∃ (a10 : Option Addr) (l10 : Nat) (c10 : Nat), w6.cell? (b9.add 5) = some (.slice a10 l10 c10) ∧
 ((0 ≤ (IntKind.wrap .i64 ((l10 : Nat) + 1) : Int) ∧ (IntKind.wrap .i64 ((l10 : Nat) + 1) : Int) ≤ IntKind.wrap .i64 ((l10 : Nat) + 1) ∧ ((1 : Nat) : Int) * (IntKind.wrap .i64 ((l10 : Nat) + 1)) ≤ 281474976710656 ∧ (IntKind.wrap .i64 ((l10 : Nat) + 1) : Int) ≤ 9223372036854775807) ∧
 AllocK w6 (madeCells (#[.bool false]) ((IntKind.wrap .i64 ((l10 : Nat) + 1) : Int).toNat * 1)) 4 fun b11 w12 =>
 ∃ (I13 : Int → World → Prop) (μ14 : Int → World → Nat),
 (I13 1 w12 ∧ True) ∧
 ∀ (w15 : World) (x16 : Int), I13 x16 w15 →
 ∃ (o17 : Option Addr), w15.cell? b2 = some (.pointer o17) ∧
 (AddrK o17 fun b18 =>
 ∃ (a19 : Option Addr) (l19 : Nat) (c19 : Nat), w15.cell? (b18.add 5) = some (.slice a19 l19 c19) ∧
 (BoolK (decide ((x16 : Int) ≤ (l19 : Nat)))
 (∃ (o20 : Option Addr), w15.cell? b2 = some (.pointer o20) ∧
 (Calls Tryz.prog 13 #[(.pointer o20), (.int .i64 x16)] w15 fun e23 w22 =>
 ∃ (s21 : ByteArray), e23 = .returned (.string s21) ∧
 ((0 ≤ (x16 : Int) ∧ (x16 : Int) < ((IntKind.wrap .i64 ((l10 : Nat) + 1) : Int).toNat : Nat)) ∧
 SetK w22 (b11.add ((x16 : Int).toNat * 1)) (.bool ((s21 : ByteArray).toList == ((⟨#[108, 105, 118, 101]⟩ : ByteArray) : ByteArray).toList)) fun w24 =>
 I13 (IntKind.wrap .i64 (x16 + 1)) w24 ∧ μ14 (IntKind.wrap .i64 (x16 + 1)) w24 < μ14 x16 w15)))
 (∃ (o25 : Option Addr), w15.cell? b2 = some (.pointer o25) ∧
 (AddrK o25 fun b26 =>
 ∃ (a27 : Option Addr) (l27 : Nat) (c27 : Nat), w15.cell? (b26.add 5) = some (.slice a27 l27 c27) ∧
 ((0 ≤ (IntKind.wrap .i64 ((l27 : Nat) + 1) : Int) ∧ (IntKind.wrap .i64 ((l27 : Nat) + 1) : Int) ≤ IntKind.wrap .i64 ((l27 : Nat) + 1) ∧ ((24 : Nat) : Int) * (IntKind.wrap .i64 ((l27 : Nat) + 1)) ≤ 281474976710656 ∧ (IntKind.wrap .i64 ((l27 : Nat) + 1) : Int) ≤ 9223372036854775807) ∧
 AllocK w15 (madeCells (#[.slice none 0 0]) ((IntKind.wrap .i64 ((l27 : Nat) + 1) : Int).toNat * 1)) 84 fun b28 w29 =>
 ∃ (I30 : Int → World → Prop) (μ31 : Int → World → Nat),
 (I30 1 w29 ∧ True) ∧
 ∀ (w32 : World) (x33 : Int), I30 x33 w32 →
 ∃ (o34 : Option Addr), w32.cell? b2 = some (.pointer o34) ∧
 (AddrK o34 fun b35 =>
 ∃ (a36 : Option Addr) (l36 : Nat) (c36 : Nat), w32.cell? (b35.add 5) = some (.slice a36 l36 c36) ∧
 (BoolK (decide ((x33 : Int) ≤ (l36 : Nat)))
 ((0 ≤ (x33 : Int) ∧ (x33 : Int) < ((IntKind.wrap .i64 ((l10 : Nat) + 1) : Int).toNat : Nat)) ∧
 ∃ (p37 : Bool), w32.cell? (b11.add ((x33 : Int).toNat * 1)) = some (.bool p37) ∧
 (BoolK p37
 (∃ (o38 : Option Addr), w32.cell? b2 = some (.pointer o38) ∧
 (Calls Tryz.prog 80 #[(.pointer o38), (.int .i64 x33), (.slice (some b11) ((IntKind.wrap .i64 ((l10 : Nat) + 1) : Int).toNat) ((IntKind.wrap .i64 ((l10 : Nat) + 1) : Int).toNat))] w32 fun e41 w40 =>
 ∃ (a39 : Option Addr), ∃ (l39 : Nat), ∃ (c39 : Nat), e41 = .returned (.slice a39 l39 c39) ∧
 ((0 ≤ (x33 : Int) ∧ (x33 : Int) < ((IntKind.wrap .i64 ((l27 : Nat) + 1) : Int).toNat : Nat)) ∧
 SetK w40 (b28.add ((x33 : Int).toNat * 1)) (.slice a39 l39 c39) fun w42 =>
 I30 (IntKind.wrap .i64 (x33 + 1)) w42 ∧ μ31 (IntKind.wrap .i64 (x33 + 1)) w42 < μ31 x33 w32)))
 (I30 (IntKind.wrap .i64 (x33 + 1)) w32 ∧ μ31 (IntKind.wrap .i64 (x33 + 1)) w32 < μ31 x33 w32)))
 (∃ (o43 : Option Addr), w32.cell? b2 = some (.pointer o43) ∧
 (AddrK o43 fun b44 =>
 ∃ (a45 : Option Addr) (l45 : Nat) (c45 : Nat), w32.cell? (b44.add 5) = some (.slice a45 l45 c45) ∧
 ((0 ≤ (IntKind.wrap .i64 ((l45 : Nat) + 1) : Int) ∧ (IntKind.wrap .i64 ((l45 : Nat) + 1) : Int) ≤ IntKind.wrap .i64 ((l45 : Nat) + 1) ∧ ((1 : Nat) : Int) * (IntKind.wrap .i64 ((l45 : Nat) + 1)) ≤ 281474976710656 ∧ (IntKind.wrap .i64 ((l45 : Nat) + 1) : Int) ≤ 9223372036854775807) ∧
 AllocK w32 (madeCells (#[.bool false]) ((IntKind.wrap .i64 ((l45 : Nat) + 1) : Int).toNat * 1)) 4 fun b46 w47 =>
 ∃ (I48 : Option Addr → Nat → Nat → Int → World → Prop) (μ49 : Option Addr → Nat → Nat → Int → World → Nat),
 (I48 none 0 0 1 w47 ∧ True) ∧
 ∀ (w50 : World) (a51 : Option Addr) (l51 : Nat) (c51 : Nat) (x52 : Int), I48 a51 l51 c51 x52 w50 →
 ∃ (o53 : Option Addr), w50.cell? b2 = some (.pointer o53) ∧
 (AddrK o53 fun b54 =>
 ∃ (a55 : Option Addr) (l55 : Nat) (c55 : Nat), w50.cell? (b54.add 5) = some (.slice a55 l55 c55) ∧
 (BoolK (decide ((x52 : Int) ≤ (l55 : Nat)))
 ((0 ≤ (x52 : Int) ∧ (x52 : Int) < ((IntKind.wrap .i64 ((l10 : Nat) + 1) : Int).toNat : Nat)) ∧
 ∃ (p56 : Bool), w50.cell? (b11.add ((x52 : Int).toNat * 1)) = some (.bool p56) ∧
 (BoolK (!p56)
 (I48 a51 l51 c51 (IntKind.wrap .i64 (x52 + 1)) w50 ∧ μ49 a51 l51 c51 (IntKind.wrap .i64 (x52 + 1)) w50 < μ49 a51 l51 c51 x52 w50)
 ((0 ≤ (x52 : Int) ∧ (x52 : Int) < ((IntKind.wrap .i64 ((l45 : Nat) + 1) : Int).toNat : Nat)) ∧
 ∃ (p57 : Bool), w50.cell? (b46.add ((x52 : Int).toNat * 1)) = some (.bool p57) ∧
 (BoolK p57
 (I48 a51 l51 c51 (IntKind.wrap .i64 (x52 + 1)) w50 ∧ μ49 a51 l51 c51 (IntKind.wrap .i64 (x52 + 1)) w50 < μ49 a51 l51 c51 x52 w50)
 ((0 ≤ (x52 : Int) ∧ (x52 : Int) < ((IntKind.wrap .i64 ((l27 : Nat) + 1) : Int).toNat : Nat)) ∧
 ∃ (a58 : Option Addr) (l58 : Nat) (c58 : Nat), w50.cell? (b28.add ((x52 : Int).toNat * 1)) = some (.slice a58 l58 c58) ∧
 ((0 ≤ (x52 : Int) ∧ (x52 : Int) < (l58 : Nat)) ∧
 AddrK a58 fun b59 =>
 ∃ (p60 : Bool), w50.cell? (b59.add ((x52 : Int).toNat * 1)) = some (.bool p60) ∧
 (BoolK (!p60)
 (I48 a51 l51 c51 (IntKind.wrap .i64 (x52 + 1)) w50 ∧ μ49 a51 l51 c51 (IntKind.wrap .i64 (x52 + 1)) w50 < μ49 a51 l51 c51 x52 w50)
 (∃ (o61 : Option Addr), w50.cell? b2 = some (.pointer o61) ∧
 (AddrK o61 fun b62 =>
 ∃ (a63 : Option Addr) (l63 : Nat) (c63 : Nat), w50.cell? (b62.add 5) = some (.slice a63 l63 c63) ∧
 ((0 ≤ (IntKind.wrap .i64 ((l63 : Nat) + 1) : Int) ∧ (IntKind.wrap .i64 ((l63 : Nat) + 1) : Int) ≤ IntKind.wrap .i64 ((l63 : Nat) + 1) ∧ ((1 : Nat) : Int) * (IntKind.wrap .i64 ((l63 : Nat) + 1)) ≤ 281474976710656 ∧ (IntKind.wrap .i64 ((l63 : Nat) + 1) : Int) ≤ 9223372036854775807) ∧
 AllocK w50 (madeCells (#[.bool false]) ((IntKind.wrap .i64 ((l63 : Nat) + 1) : Int).toNat * 1)) 4 fun b64 w65 =>
 AllocK w65 (#[.slice none 0 0]) 84 fun b66 w67 =>
 SetK w67 b66 (.slice (some b64) ((IntKind.wrap .i64 ((l63 : Nat) + 1) : Int).toNat) ((IntKind.wrap .i64 ((l63 : Nat) + 1) : Int).toNat)) fun w68 =>
 ∃ (I69 : Option Addr → Nat → Nat → Int → World → Prop) (μ70 : Option Addr → Nat → Nat → Int → World → Nat),
 (I69 none 0 0 x52 w68 ∧ True) ∧
 ∀ (w71 : World) (a72 : Option Addr) (l72 : Nat) (c72 : Nat) (x73 : Int), I69 a72 l72 c72 x73 w71 →
 ∃ (o74 : Option Addr), w71.cell? b2 = some (.pointer o74) ∧
 (AddrK o74 fun b75 =>
 ∃ (a76 : Option Addr) (l76 : Nat) (c76 : Nat), w71.cell? (b75.add 5) = some (.slice a76 l76 c76) ∧
 (BoolK (decide ((x73 : Int) ≤ (l76 : Nat)))
 (∃ (J77 : Bool → World → Prop),
 (∀ (w78 : World) (p79 : Bool), J77 p79 w78 →
 BoolK p79
 (∃ (a80 : Option Addr) (l80 : Nat) (c80 : Nat), w78.cell? b66 = some (.slice a80 l80 c80) ∧
 ((0 ≤ (x73 : Int) ∧ (x73 : Int) < (l80 : Nat)) ∧
 AddrK a80 fun b81 =>
 SetK w78 (b81.add ((x73 : Int).toNat * 1)) (.bool true) fun w82 =>
 (0 ≤ (x73 : Int) ∧ (x73 : Int) < ((IntKind.wrap .i64 ((l45 : Nat) + 1) : Int).toNat : Nat)) ∧
 SetK w82 (b46.add ((x73 : Int).toNat * 1)) (.bool true) fun w83 =>
 AllocK w83 (#[(.int .i64 x73)]) 3 fun b84 w85 =>
 ∃ (a86 : Option Addr), ∃ (l86 : Nat), ∃ (c86 : Nat), ∃ (w87 : World), Sem.run Tryz.prog (Builtin.append_ #[43, 43] 43 #[(.slice a72 l72 c72), (.slice (some b84) 1 1)]) w85 = .ok (.slice a86 l86 c86) w87 ∧
 (I69 a86 l86 c86 (IntKind.wrap .i64 (x73 + 1)) w87 ∧ μ70 a86 l86 c86 (IntKind.wrap .i64 (x73 + 1)) w87 < μ70 a72 l72 c72 x73 w71)))
 (I69 a72 l72 c72 (IntKind.wrap .i64 (x73 + 1)) w78 ∧ μ70 a72 l72 c72 (IntKind.wrap .i64 (x73 + 1)) w78 < μ70 a72 l72 c72 x73 w71)) ∧
 ((0 ≤ (x73 : Int) ∧ (x73 : Int) < ((IntKind.wrap .i64 ((l10 : Nat) + 1) : Int).toNat : Nat)) ∧
 ∃ (p88 : Bool), w71.cell? (b11.add ((x73 : Int).toNat * 1)) = some (.bool p88) ∧
 (BoolK p88
 ((0 ≤ (x52 : Int) ∧ (x52 : Int) < ((IntKind.wrap .i64 ((l27 : Nat) + 1) : Int).toNat : Nat)) ∧
 ∃ (a89 : Option Addr) (l89 : Nat) (c89 : Nat), w71.cell? (b28.add ((x52 : Int).toNat * 1)) = some (.slice a89 l89 c89) ∧
 ((0 ≤ (x73 : Int) ∧ (x73 : Int) < (l89 : Nat)) ∧
 AddrK a89 fun b90 =>
 ∃ (p91 : Bool), w71.cell? (b90.add ((x73 : Int).toNat * 1)) = some (.bool p91) ∧
 (BoolK p91
 ((0 ≤ (x73 : Int) ∧ (x73 : Int) < ((IntKind.wrap .i64 ((l27 : Nat) + 1) : Int).toNat : Nat)) ∧
 ∃ (a92 : Option Addr) (l92 : Nat) (c92 : Nat), w71.cell? (b28.add ((x73 : Int).toNat * 1)) = some (.slice a92 l92 c92) ∧
 ((0 ≤ (x52 : Int) ∧ (x52 : Int) < (l92 : Nat)) ∧
 AddrK a92 fun b93 =>
 ∃ (p94 : Bool), w71.cell? (b93.add ((x52 : Int).toNat * 1)) = some (.bool p94) ∧
 (J77 p94 w71)))
 (J77 false w71))))
 (J77 false w71))))
 (Calls Tryz.prog 81 #[(.slice a72 l72 c72), (.func (.func 82) #[] #[(.pointer (some b2)), (.pointer (some b66))])] w71 fun e97 w96 =>
 ∃ (p95 : Bool), e97 = .returned (.bool p95) ∧
 (BoolK (!p95)
 (AllocK w96 (#[(.slice a72 l72 c72)]) 43 fun b98 w99 =>
 ∃ (a100 : Option Addr), ∃ (l100 : Nat), ∃ (c100 : Nat), ∃ (w101 : World), Sem.run Tryz.prog (Builtin.append_ #[45, 45] 45 #[(.slice a51 l51 c51), (.slice (some b98) 1 1)]) w99 = .ok (.slice a100 l100 c100) w101 ∧
 (I48 a100 l100 c100 (IntKind.wrap .i64 (x52 + 1)) w101 ∧ μ49 a100 l100 c100 (IntKind.wrap .i64 (x52 + 1)) w101 < μ49 a51 l51 c51 x52 w50))
 (I48 a51 l51 c51 (IntKind.wrap .i64 (x52 + 1)) w96 ∧ μ49 a51 l51 c51 (IntKind.wrap .i64 (x52 + 1)) w96 < μ49 a51 l51 c51 x52 w50)))))))))))))))
 (K a51 l51 c51 w50))))))))))))))))))
def ann41 : Ann := (.two .nil (.two (.two .nil (.two (.two .nil .nil) .nil)) (.two .nil (.two (.two .nil (.one (.loop [(4, (.one (.int .i64)))] [1, 3] (.two (.two .nil (.two .nil .nil)) (.two (.one .nil) .nil))))) (.two .nil (.two (.two .nil (.one (.loop [(6, (.one (.int .i64)))] [1, 3, 5] (.two (.two .nil (.two .nil .nil)) (.two (.one (.two .nil (.two .nil .nil))) .nil))))) (.two .nil (.two .nil (.two (.two .nil (.one (.loop [(7, (.one .slice)), (9, (.one (.int .i64)))] [1, 3, 5, 8] (.two (.two .nil (.two .nil .nil)) (.two (.one (.two (.two .nil (.two .nil .nil)) (.two .nil (.two .nil (.two (.two .nil (.one (.loop [(11, (.one .slice)), (12, (.one (.int .i64)))] [1, 3, 5, 7, 8, 9, 10] (.two (.two .nil (.two .nil .nil)) (.two (.one (.cut [(140, (.one .bool))] [1, 3, 5, 7, 8, 9, 10, 11, 12] .nil (.two (.two .nil .nil) .nil))) .nil))))) (.two .nil (.two .nil .nil))))))) .nil))))) (.two .nil .nil))))))))))
noncomputable def code41 : Code := match Tryz.f41.body with | some c => c | none => .skip
theorem wp41 (o1 : Option Addr) (K : Option Addr → Nat → Nat → World → Prop) (w : World) : WP Tryz.prog tab code41 ann41 (fnQ tab Tryz.f41.results.toList [(.one .slice)] K) (argE 0 [(.pointer o1)]) w = N41 o1 K w := by kernel_rfl
theorem calls41 (o1 : Option Addr) (K : Option Addr → Nat → Nat → World → Prop) (w : World) (h : N41 o1 K w) : Calls Tryz.prog 41 #[(.pointer o1)] w fun en w' => ∃ (a102 : Option Addr), ∃ (l102 : Nat), ∃ (c102 : Nat), en = .returned (.slice a102 l102 c102) ∧ K a102 l102 c102 w' :=
 have e : (fun en w' => ExShs [(.one .slice)] fun vs => en = .returned (tupled vs) ∧ ap [(.one .slice)] K vs fun p => p w') = (fun (en : Ending) (w' : World) => ∃ (a102 : Option Addr), ∃ (l102 : Nat), ∃ (c102 : Nat), en = .returned (.slice a102 l102 c102) ∧ K a102 l102 c102 w') := by kernel_rfl
 e ▸ fn_sound tabOk mixed Tryz.func41 (by kernel_rfl : Tryz.f41.body = some code41) ann41 [(.pointer o1)] [(.one .slice)] K w (by kernel_rfl) ((wp41 o1 K w).symm ▸ h)
end Go.Proofs.YtgggbmikmmljcaaGreat

namespace Go.Proofs.YtgggbmikmmljcaaGreat
open Go Go.V Go.Proofs
open Go.RowKit (Below)
abbrev Lists (w : World) (a : Option Addr) (l : Nat) (d : List (List Int)) : Prop := Go.V.Rows 1 (Go.V.RSl 1 Go.V.RInt) w a l d
section
variable {w w' w2 : World} {own own' : OwnM Role} {r r1 : Raw} {S S1 : CS} {b n : Nat}
theorem boxAt {v : Value} {t : Nat} (h : Blk w b #[v] t) : w.cell? (⟨b, 0, none⟩ : Addr) = some v := by rw [h.cell]; rfl
theorem made_slices (n : Nat) : madeCells #[.slice none 0 0] (n * 1) = ((List.replicate n ((none, 0, 0) : SL)).map slv).toArray := by
  apply Array.ext'
  rw [Nat.mul_one, toList_madeCells_one]; simp [slv]
def MyL (base : Nat) (w : World) (a : Option Addr) (l c m : Nat) : Prop := ∃ (SS : List SL) (LL : List (List Int)), OwnR base 43 1 eS w a l c SS ∧ SS.length = LL.length ∧ (∀ (i : Nat) (q : SL) (ys : List Int), SS[i]? = some q → LL[i]? = some ys → OwnR base 3 1 eI w q.1 q.2.1 q.2.2 ys) ∧ ∀ ys ∈ LL, ys.length ≤ m
theorem MyL.lists {base : Nat} {a : Option Addr} {l c m : Nat} (h : MyL base w a l c m) : ∃ d, Lists w a l d ∧ ∀ ys ∈ d, ys.length ≤ m := by
  obtain ⟨SS, LL, h1, h2, h3, h4⟩ := h
  exact ⟨LL, h1.rows eS_len (Go.V.RSl 1 Go.V.RInt) h2.symm fun f i s d hs hd hf => ⟨s.1, s.2.1, s.2.2, by rw [hf 0 (by omega)]; rfl, (h3 i s d hs hd).ints⟩, h4⟩
theorem MyL.kept {base : Nat} {a : Option Addr} {l c m : Nat} (h : MyL base w a l c m) (k : ∀ j, base ≤ j → j < w.heap.size → w'.heap[j]? = w.heap[j]?) : MyL base w' a l c m := by
  obtain ⟨SS, LL, h1, h2, h3, h4⟩ := h
  exact ⟨SS, LL, h1.kept fun j hj => k j (h1.lt j hj).1 (h1.lt j hj).2, h2, fun i q ys hq hy => (h3 i q ys hq hy).kept fun j hj => k j ((h3 i q ys hq hy).lt j hj).1 ((h3 i q ys hq hy).lt j hj).2, h4⟩
theorem c41 (h : CR w own r S) (L : Lim2 S) (hck : S.clocks.length ≤ 1000000000) (hon : ∀ t ∈ S.things, ∀ y ∈ t.on, S.isT y) :
    Calls Tryz.prog 41 #[cp r] w fun en w' => ∃ a l c, en = .returned (.slice a l c) ∧ (MyL w.heap.size w' a l c S.things.length ∧ Ext w w') := by
  refine calls41 _ _ w ?_
  have hl := h.thl2
  have Lt := L.th
  refine AllocK.mk fun b2 w3 hb2 hB2 hx3 => ?_
  have h3 := h.ext hx3
  refine ⟨_, boxAt hB2, ?_⟩
  refine (c21 h3).mono ?_
  rintro en w6 ⟨p, rfl, rfl, rfl⟩
  refine ⟨_, rfl, BoolK.mk (fun t => by cases t) (fun _ => ?_)⟩
  refine ⟨_, boxAt hB2, _, _, _, h3.cell 5 rfl, ?_⟩
  have e0 : IntKind.wrap .i64 (((r.th.2.1 : Nat) : Int) + 1) = ((S.things.length + 1 : Nat) : Int) := by rw [hl]; exact wrap_succ (by omega)
  rw [e0, Int.toNat_natCast]
  refine ⟨by omega, AllocK.mk fun b11 w12 hb11 hB11 hx12 => ?_⟩
  rw [made_bools] at hB11
  have l2 := hB2.lt
  -- who lives
  refine ⟨fun i w' => ∃ (k : Nat) (D : List Bool), i = ((k + 1 : Nat) : Int) ∧ k ≤ S.things.length ∧ Ext w w' ∧ Blk w' b2 #[.pointer (some ⟨r.b, 0, none⟩)] 23 ∧ Blk w' b11 (bools D) 4 ∧ D.length = S.things.length + 1, fun i _ => S.things.length + 1 - i.toNat,
    ⟨⟨0, _, rfl, Nat.zero_le _, hx3.trans hx12, hB2.ext hx12, hB11, by simp⟩, trivial⟩, ?_⟩
  rintro w15 i ⟨k, D, rfl, hk, hx15, hB2, hB11, hDl⟩
  have h15 := h.ext hx15
  refine ⟨_, boxAt hB2, _, _, _, h15.cell 5 rfl, BoolK.mk (fun t => ?_) (fun _ => ?_)⟩
  · have t := of_decide_eq_true t
    refine ⟨_, boxAt hB2, ?_⟩
    refine (c13 h15 L _).mono ?_
    rintro en w22 ⟨s, rfl, _, hx22⟩
    refine ⟨_, rfl, ⟨by omega, by omega⟩, ?_⟩
    rw [add_mk, Nat.zero_add, Int.toNat_natCast, Nat.mul_one]
    have hB22 := hB11.ext hx22
    refine SetK.mk hB22 (by simp [bools]; omega) fun w24 hB24 but => ?_
    rw [bools_set] at hB24
    rw [wrap_succ (by omega)]
    have hne : b2 ≠ b11 := by omega
    exact ⟨⟨k + 1, D.set (k + 1) _, rfl, by omega, but.below (hx15.trans hx22) (by have := hx3.size; omega), but.blk (hB2.ext hx22) hne, hB24, by simpa using hDl⟩, by simp; omega⟩
  clear hk
  refine ⟨_, boxAt hB2, _, _, _, h15.cell 5 rfl, ?_⟩
  rw [e0, Int.toNat_natCast]
  refine ⟨by omega, AllocK.mk fun b28 w29 hb28 hB28 hx29 => ?_⟩
  rw [made_slices] at hB28
  have lo : w.heap.size ≤ b11 := by have := hx3.size; omega
  -- whom each comes to
  refine ⟨fun i w' => ∃ (k : Nat) (T : List SL), i = ((k + 1 : Nat) : Int) ∧ k ≤ S.things.length ∧ Ext w w' ∧ Blk w' b2 #[.pointer (some ⟨r.b, 0, none⟩)] 23 ∧ Blk w' b11 (bools D) 4 ∧ Blk w' b28 (T.map slv).toArray 84 ∧ T.length = S.things.length + 1 ∧
      (∀ (i : Nat) (s : SL), 1 ≤ i → i ≤ k → D[i]? = some true → T[i]? = some s → GoodT w' (S.things.length + 1) s), fun i _ => S.things.length + 1 - i.toNat,
    ⟨⟨0, _, rfl, Nat.zero_le _, hx15.trans hx29, hB2.ext hx29, hB11.ext hx29, hB28, by simp, fun i s h1 h2 => by omega⟩, trivial⟩, ?_⟩
  clear hB28
  rintro w32 i ⟨k, T, rfl, hk, hx32, hB2, hB11, hB28, hTl, hgood⟩
  have h32 := h.ext hx32
  refine ⟨_, boxAt hB2, _, _, _, h32.cell 5 rfl, BoolK.mk (fun t => ?_) (fun t => ?_)⟩
  · have t := of_decide_eq_true t
    have hkl : k < S.things.length := by omega
    refine ⟨⟨by omega, by omega⟩, D[k + 1]'(by omega), by rw [add_mk, Nat.zero_add, Int.toNat_natCast, Nat.mul_one, hB11.cell, bools_get (by omega)], BoolK.mk (fun tl => ?_) (fun tl => ?_)⟩
    · refine ⟨_, boxAt hB2, ?_⟩
      refine (c80 h32 L hon (x := ((k + 1 : Nat) : Int)) ⟨by omega, by omega⟩ ⟨D, hDl, hB11⟩ rfl).mono ?_
      rintro en w40 ⟨a', l', c', rfl, b', rfl, rfl, hBB, hb', hx40⟩
      refine ⟨_, _, _, rfl, ⟨by omega, by omega⟩, ?_⟩
      rw [add_mk, Nat.zero_add, Int.toNat_natCast, Nat.mul_one]
      have hB40 := hB28.ext hx40
      refine SetK.mk hB40 (by simp; omega) fun w42 hB42 but => ?_
      have e9 : ((T.map slv).toArray.setIfInBounds (k + 1) (.slice (some ⟨b', 0, none⟩) (S.things.length + 1) c')) = ((T.set (k + 1) (some ⟨b', 0, none⟩, S.things.length + 1, c')).map slv).toArray := by simp [List.map_set, slv]
      rw [e9] at hB42
      rw [wrap_succ (by omega)]
      have s15 := hx15.size
      have tne : ∀ {b t : Nat} {cs : Array Value}, Blk w40 b cs t → t ≠ 84 → b ≠ b28 := fun {b t cs} h1 h2 e => by
        subst e
        have h3 : w40.heap[b]? = _ := h1
        have h4 : w40.heap[b]? = _ := hB40
        rw [h3] at h4; cases h4; exact h2 rfl
      have keepBB : ∀ {b m : Nat}, BB w40 b m → BB w42 b m := fun {b m} h1 => by obtain ⟨F, hF, hC⟩ := h1; exact ⟨F, hF, but.blk hC (tne hC (by decide))⟩
      refine ⟨⟨k + 1, _, rfl, by omega, but.below (hx32.trans hx40) (by omega), but.blk (hB2.ext hx40) (tne (hB2.ext hx40) (by decide)), but.blk (hB11.ext hx40) (tne (hB11.ext hx40) (by decide)), hB42, by simpa using hTl, fun i s h1 h2 h3 h4 => ?_⟩, by simp; omega⟩
      rw [List.getElem?_set] at h4
      split at h4
      · split at h4
        · cases h4; exact ⟨b', c', rfl, keepBB hBB⟩
        · cases h4
      · obtain ⟨b, c, e1, e2⟩ := hgood i s h1 (by omega) h3 h4
        exact ⟨b, c, e1, keepBB (e2.ext hx40)⟩
    · rw [wrap_succ (by omega)]
      refine ⟨⟨k + 1, T, rfl, by omega, hx32, hB2, hB11, hB28, hTl, fun i s h1 h2 h3 h4 => ?_⟩, by simp; omega⟩
      by_cases hi : i = k + 1
      · subst hi; rw [List.getElem?_eq_getElem (by omega), tl] at h3; cases h3
      · exact hgood i s h1 (by omega) h3 h4
  have hkn : k = S.things.length := by have := of_decide_eq_false t; omega
  subst hkn
  refine ⟨_, boxAt hB2, _, _, _, h32.cell 5 rfl, ?_⟩
  rw [e0, Int.toNat_natCast]
  refine ⟨by omega, AllocK.mk fun b46 w47 hb46 hB46 hx47 => ?_⟩
  rw [made_bools] at hB46
  have l11 := hB11.lt
  have s32 := hx32.size
  have ci0 : CI w r.b S.things.length b2 b11 b28 b46 D T [] [] (none, 0, 0) w47 := ⟨hx32.trans hx47, hB2.ext hx47, hB11.ext hx47, hDl, hB28.ext hx47, hTl, fun i s h1 h2 h3 => (hgood i s h1 (by have := (List.getElem?_eq_some_iff.1 h3).1; omega) h2 h3).ext hx47, ⟨_, by simp, hB46⟩, by omega, by omega, OwnR.nil _ _ _ _ _, rfl, fun i q ys h1 => by cases h1⟩
  clear hgood
  refine ⟨fun a l c i w' => ∃ (k : Nat) (SS : List SL) (LL : List (List Int)), i = ((k + 1 : Nat) : Int) ∧ k ≤ S.things.length ∧ CI w r.b S.things.length b2 b11 b28 b46 D T SS LL (a, l, c) w' ∧ SS.length ≤ k ∧ ∀ ys ∈ LL, ys.length ≤ S.things.length, fun _ _ _ i _ => S.things.length + 1 - i.toNat,
    ⟨⟨0, [], [], rfl, Nat.zero_le _, ci0, Nat.zero_le _, fun ys h => by cases h⟩, trivial⟩, ?_⟩
  clear hB2 hB11 hB28 hB46 t ci0
  rintro w50 a51 l51 c51 i ⟨k, SS, LL, rfl, hk, ci, hSk, hLk⟩
  have h50 := h.ext ci.x
  refine ⟨_, boxAt ci.x2, _, _, _, h50.cell 5 rfl, BoolK.mk (fun t => ?_) (fun _ => ⟨⟨SS, LL, ci.out, ci.sl, ci.lists, hLk⟩, ci.x⟩)⟩
  have t := of_decide_eq_true t
  have hkl : k < S.things.length := by omega
  have next : ∀ {w' : World}, CI w r.b S.things.length b2 b11 b28 b46 D T SS LL (a51, l51, c51) w' → (∃ (k2 : Nat) (SS : List SL) (LL : List (List Int)), IntKind.wrap .i64 (((k + 1 : Nat) : Int) + 1) = ((k2 + 1 : Nat) : Int) ∧ k2 ≤ S.things.length ∧ CI w r.b S.things.length b2 b11 b28 b46 D T SS LL (a51, l51, c51) w' ∧ SS.length ≤ k2 ∧ ∀ ys ∈ LL, ys.length ≤ S.things.length) ∧
      S.things.length + 1 - (IntKind.wrap .i64 (((k + 1 : Nat) : Int) + 1)).toNat < S.things.length + 1 - ((k + 1 : Nat) : Int).toNat := fun {w'} hc => by
    rw [wrap_succ (by omega)]
    exact ⟨⟨k + 1, SS, LL, rfl, by omega, hc, by omega, hLk⟩, by simp; omega⟩
  have liveAt : ∀ {w' : World} {j : Nat} (hj : j < S.things.length + 1), Blk w' b11 (bools D) 4 → w'.cell? ((⟨b11, 0, none⟩ : Addr).add (((j : Nat) : Int).toNat * 1)) = some (.bool (D[j]'(by omega))) := fun {w' j} hj hb => by
    rw [add_mk, Nat.zero_add, Int.toNat_natCast, Nat.mul_one, hb.cell, bools_get]
  have toAt : ∀ {w' : World} {j : Nat} (hj : j < T.length), Blk w' b28 (T.map slv).toArray 84 → w'.cell? ((⟨b28, 0, none⟩ : Addr).add (((j : Nat) : Int).toNat * 1)) = some (slv T[j]) := fun {w' j} hj hb => by
    rw [add_mk, Nat.zero_add, Int.toNat_natCast, Nat.mul_one, hb.cell]; simp [hj]
  refine ⟨⟨by omega, by omega⟩, _, liveAt (j := k + 1) (by omega) ci.live, BoolK.mk (fun _ => next ci) (fun tl => ?_)⟩
  have tl : D[k + 1]'(by omega) = true := by simpa using tl
  obtain ⟨pd, hpd⟩ := ci.done.at_ (i := k + 1) (by omega)
  refine ⟨⟨by omega, by omega⟩, pd, by rw [add_mk, Nat.zero_add, Int.toNat_natCast, Nat.mul_one]; exact hpd, BoolK.mk (fun _ => next ci) (fun _ => ?_)⟩
  obtain ⟨bi, cI, eT', hBi⟩ := ci.good (k + 1) _ (by omega) (by rw [List.getElem?_eq_getElem (by omega), tl]) (List.getElem?_eq_getElem (by omega))
  have hto : w50.cell? ((⟨b28, 0, none⟩ : Addr).add (((k + 1 : Nat) : Int).toNat * 1)) = some (.slice (some ⟨bi, 0, none⟩) (S.things.length + 1) cI) := by rw [toAt (j := k + 1) (by omega) ci.to, eT']; rfl
  obtain ⟨pi, hpi⟩ := hBi.at_ (i := k + 1) (by omega)
  refine ⟨⟨by omega, by omega⟩, _, _, _, hto, ⟨by omega, by omega⟩, pi, by rw [add_mk, Nat.zero_add, Int.toNat_natCast, Nat.mul_one]; exact hpi, BoolK.mk (fun _ => next ci) (fun _ => ?_)⟩
  refine ⟨_, boxAt ci.x2, _, _, _, h50.cell 5 rfl, ?_⟩
  rw [e0, Int.toNat_natCast]
  refine ⟨by omega, AllocK.mk fun b64 w65 hb64 hB64 hx65 => AllocK.mk fun b66 w67 hb66 hB66 hx67 => ?_⟩
  rw [made_bools] at hB64
  refine SetK.mk hB66 (by simp) fun w68 hB68 but => ?_
  have s50 := ci.x.size; have s65 := hx65.size; have s67 := hx67.size
  have l64 := hB64.lt
  have hx68 : Ext w50 w68 := but.below (hx65.trans hx67) (by omega)
  have ci68 := ci.ext hx68
  have hB64' : Blk w68 b64 _ 4 := but.blk (hB64.ext hx67) (by omega)
  have hB68' : Blk w68 b66 #[.slice (some ⟨b64, 0, none⟩) (S.things.length + 1) (S.things.length + 1)] 84 := by simpa using hB68
  have hap : ∀ (i : Nat) (q : SL) (ys : List Int), SS[i]? = some q → LL[i]? = some ys → ∀ j, (Value.slice q.1 q.2.1 q.2.2).ownBlock = some j → j < w68.heap.size := fun i q ys h1 h2 j hj => ((ci68.lists i q ys h1 h2).lt j hj).2
  have n64 : b64 ≠ b11 := by have := ci.live.lt; omega
  have n46 : b46 < w50.heap.size := ci.done.lt
  have d1 : b66 ≠ b64 := by omega
  have d2 : b66 ≠ b46 := by omega
  have d3 : w68.heap.size = w67.heap.size := but.size
  have d4 : b46 < w68.heap.size := by omega
  have d5 : b64 < w68.heap.size := by omega
  refine ⟨fun a l c i w' => ∃ (k2 : Nat) (ls : List Int), i = ((k2 + 1 : Nat) : Int) ∧ k ≤ k2 ∧ k2 ≤ S.things.length ∧ CI w r.b S.things.length b2 b11 b28 b46 D T SS LL (a51, l51, c51) w' ∧ Blk w' b66 #[.slice (some ⟨b64, 0, none⟩) (S.things.length + 1) (S.things.length + 1)] 84 ∧ BB w' b64 (S.things.length + 1) ∧
      OwnR w68.heap.size 3 1 eI w' a l c ls ∧ (∀ y ∈ ls, S.isT y) ∧ ls.length ≤ k2 ∧ w68.heap.size ≤ w'.heap.size, fun _ _ _ i _ => S.things.length + 1 - i.toNat,
    ⟨⟨k, [], rfl, Nat.le_refl _, hk, ci68, hB68', ⟨_, by simp, hB64'⟩, OwnR.nil _ _ _ _ _, (fun y hy => by cases hy), Nat.zero_le _, Nat.le_refl _⟩, trivial⟩, ?_⟩
  rintro w71 a72 l72 c72 i ⟨k2, ls, rfl, hkk, hk2, cj, hB66, hBB, hO, hls, hll, hsz⟩
  have h71 := h.ext cj.x
  refine ⟨_, boxAt cj.x2, _, _, _, h71.cell 5 rfl, BoolK.mk (fun t2 => ?_) (fun _ => ?_)⟩
  · have t2 := of_decide_eq_true t2
    have hk2l : k2 < S.things.length := by omega
    have step : ∀ {a l c} {w' : World} (ls2 : List Int), CI w r.b S.things.length b2 b11 b28 b46 D T SS LL (a51, l51, c51) w' → Blk w' b66 #[.slice (some ⟨b64, 0, none⟩) (S.things.length + 1) (S.things.length + 1)] 84 → BB w' b64 (S.things.length + 1) → OwnR w68.heap.size 3 1 eI w' a l c ls2 → (∀ y ∈ ls2, S.isT y) → ls2.length ≤ k2 + 1 → w68.heap.size ≤ w'.heap.size →
        (∃ (k3 : Nat) (ls : List Int), IntKind.wrap .i64 (((k2 + 1 : Nat) : Int) + 1) = ((k3 + 1 : Nat) : Int) ∧ k ≤ k3 ∧ k3 ≤ S.things.length ∧ CI w r.b S.things.length b2 b11 b28 b46 D T SS LL (a51, l51, c51) w' ∧ Blk w' b66 #[.slice (some ⟨b64, 0, none⟩) (S.things.length + 1) (S.things.length + 1)] 84 ∧ BB w' b64 (S.things.length + 1) ∧
          OwnR w68.heap.size 3 1 eI w' a l c ls ∧ (∀ y ∈ ls, S.isT y) ∧ ls.length ≤ k3 ∧ w68.heap.size ≤ w'.heap.size) ∧ S.things.length + 1 - (IntKind.wrap .i64 (((k2 + 1 : Nat) : Int) + 1)).toNat < S.things.length + 1 - ((k2 + 1 : Nat) : Int).toNat := fun ls2 a1 a2 a3 a4 a5 a6 a7 => by
      rw [wrap_succ (by omega)]
      exact ⟨⟨k2 + 1, ls2, rfl, by omega, by omega, a1, a2, a3, a4, a5, a6, a7⟩, by simp; omega⟩
    refine ⟨fun p w' => w' = w71, ?_, ?_⟩
    · rintro w78 p rfl
      refine BoolK.mk (fun _ => ?_) (fun _ => step ls cj hB66 hBB hO hls (by omega) hsz)
      refine ⟨_, _, _, boxAt hB66, ⟨by omega, by omega⟩, ?_⟩
      rw [add_mk, Nat.zero_add, Int.toNat_natCast, Nat.mul_one]
      obtain ⟨E, hE, hBE⟩ := hBB
      refine SetK.mk hBE (by simp [bools]; omega) fun w82 hB82 but82 => ?_
      rw [bools_set] at hB82
      have cj82 := cj.put ⟨E, hE, hBE⟩ ⟨_, by simpa using hE, hB82⟩ but82 n64 (by omega)
      refine ⟨⟨by omega, by omega⟩, ?_⟩
      obtain ⟨E2, hE2, hBE2⟩ := cj82.done
      refine SetK.mk hBE2 (by simp [bools]; omega) fun w83 hB83 but83 => ?_
      rw [bools_set] at hB83
      have cj83 := cj82.put ⟨E2, hE2, hBE2⟩ ⟨_, by simpa using hE2, hB83⟩ but83 cj82.ne cj82.b46n
      have z66 : Blk w83 b66 _ 84 := but83.blk (but82.blk hB66 d1) d2
      have z64 : BB w83 b64 (S.things.length + 1) := ⟨_, by simpa using hE, but83.blk hB82 (by omega)⟩
      have zO : OwnR w68.heap.size 3 1 eI w83 a72 l72 c72 ls := (hO.kept fun j hj => but82.block j (fun e => by have e : j = b64 := e; have := (hO.lt j hj).1; omega)).kept fun j hj => but83.block j (fun e => by have e : j = b46 := e; have := (hO.lt j hj).1; omega)
      have sz83 : w68.heap.size ≤ w83.heap.size := by rw [but83.size, but82.size]; exact hsz
      refine OwnR.push (te := 3) ((k2 + 1 : Nat) : Int) sltI zO sz83 eI_len eI_one (by omega) rfl fun a' c' w87 hO87 hgr hob => ?_
      have n66 : b66 < w68.heap.size := by have := hB68'.lt; exact this
      have n64' : b64 < w68.heap.size := hB64'.lt
      refine step (ls ++ [((k2 + 1 : Nat) : Int)]) (cj83.grow zO (by have := cj.x.size; have := ci68.x.size; exact this) sz83 hgr hap) ?_ ?_ hO87 (fun y hy => ?_) (by rw [List.length_append, List.length_singleton]; omega) (Nat.le_trans sz83 hgr.size)
      · exact (hgr.block b66 z66.lt fun e => by have h9 := (zO.lt b66 e.symm).1; clear hgr; omega).trans z66
      · obtain ⟨F, hF, hC⟩ := z64
        exact ⟨F, hF, (hgr.block b64 hC.lt fun e => by have := (zO.lt b64 e.symm).1; omega).trans hC⟩
      · rcases List.mem_append.1 hy with hy | hy
        · exact hls y hy
        · have : y = ((k2 + 1 : Nat) : Int) := by simpa using hy
          subst this; exact ⟨by omega, by omega⟩
    · refine ⟨⟨by omega, by omega⟩, _, liveAt (j := k2 + 1) (by omega) cj.live, BoolK.mk (fun tl2 => ?_) (fun _ => rfl)⟩
      have hto1 : w71.cell? ((⟨b28, 0, none⟩ : Addr).add (((k + 1 : Nat) : Int).toNat * 1)) = some (.slice (some ⟨bi, 0, none⟩) (S.things.length + 1) cI) := by rw [toAt (j := k + 1) (by omega) cj.to, eT']; rfl
      obtain ⟨bi2, cI2, eT2, hBi2⟩ := cj.good (k + 1) _ (by omega) (by rw [List.getElem?_eq_getElem (by omega), tl]) (List.getElem?_eq_getElem (by omega))
      have hbb : bi2 = bi := by rw [eT'] at eT2; simp at eT2; exact eT2.1.symm
      subst hbb
      obtain ⟨p1, hp1⟩ := hBi2.at_ (i := k2 + 1) (by omega)
      refine ⟨⟨by omega, by omega⟩, _, _, _, hto1, ⟨by omega, by omega⟩, p1, by rw [add_mk, Nat.zero_add, Int.toNat_natCast, Nat.mul_one]; exact hp1, BoolK.mk (fun _ => ?_) (fun _ => rfl)⟩
      obtain ⟨bi3, cI3, eT3, hBi3⟩ := cj.good (k2 + 1) _ (by omega) (by rw [List.getElem?_eq_getElem (by omega), tl2]) (List.getElem?_eq_getElem (by omega))
      have hto3 : w71.cell? ((⟨b28, 0, none⟩ : Addr).add (((k2 + 1 : Nat) : Int).toNat * 1)) = some (.slice (some ⟨bi3, 0, none⟩) (S.things.length + 1) cI3) := by rw [toAt (j := k2 + 1) (by omega) cj.to, eT3]; rfl
      obtain ⟨p3, hp3⟩ := hBi3.at_ (i := k + 1) (by omega)
      exact ⟨⟨by omega, by omega⟩, _, _, _, hto3, ⟨by omega, by omega⟩, p3, by rw [add_mk, Nat.zero_add, Int.toNat_natCast, Nat.mul_one]; exact hp3, rfl⟩
  · refine (c81 Tryz.call82 hO.ints (asksCycles h71 L hck hls cj.x2 hB66 hBB rfl) (by omega)).mono ?_
    rintro en w96 ⟨p, rfl, hx96⟩
    have ce := cj.ext hx96
    refine ⟨_, rfl, BoolK.mk (fun _ => ?_) (fun _ => next ce)⟩
    have hO96 := (hO.ext hx96).mono (show w.heap.size ≤ w68.heap.size from ci68.x.size)
    refine OwnR.push (te := 43) ((a72, l72, c72) : SL) (slOk.ok (by kernel_rfl : slOk Tryz.prog 45 43 1 24 = true)) ce.out ce.x.size eS_len eS_one (by omega) rfl fun a' c' w101 hO101 hgr hob => ?_
    rw [wrap_succ (by omega)]
    exact ⟨⟨k + 1, _, _, rfl, by omega, ce.pushed (q := (a72, l72, c72)) hO96 hO101 hgr, by simp; omega, fun ys hy => by
      rcases List.mem_append.1 hy with hy | hy
      · exact hLk ys hy
      · simp only [List.mem_singleton] at hy; subst hy; omega⟩, by simp; omega⟩
end
end Go.Proofs.YtgggbmikmmljcaaGreat

namespace Go.V
open Go.RowKit (Below)
abbrev Ka (ι : Type) := Nat → Option (ι × Nat × Nat)
structure KS (ι : Type) where
  ty : ι → TypeId
  sz : ι → Nat
  pos : ∀ k, 0 < sz k
abbrev OkF (ι : Type) := Ka ι → ι → Nat → Value → Prop
section
variable {ι : Type} {S : KS ι} {O O' : OkF ι} {κ κ' κ'' : Ka ι} {w w' w'' : World} {k : ι}
def Kle (κ κ' : Ka ι) : Prop := ∀ b k n u, κ b = some (k, n, u) → ∃ u', u ≤ u' ∧ κ' b = some (k, n, u')
structure OkM (O : OkF ι) : Prop where
  mono : ∀ κ κ' k j v, Kle κ κ' → O κ k j v → O κ' k j v
  one : ∀ κ k j v, O κ k j v → v.oneCell' = true
def Ty (S : KS ι) (O : OkF ι) (κ : Ka ι) (w : World) : Prop :=
  ∀ b k n u, κ b = some (k, n, u) → ∃ cs : Array Value, Blk w b cs (S.ty k) ∧ cs.size = n ∧ u ≤ n ∧ ∀ i v, i < u → cs[i]? = some v → O κ k (i % S.sz k) v
def Sl (S : KS ι) (κ : Ka ι) (k : ι) (s : SL) : Prop :=
  s = (none, 0, 0) ∨ ∃ g j n u, s.1 = some ⟨g, j * S.sz k, none⟩ ∧ κ g = some (k, n, u) ∧ s.2.1 ≤ s.2.2 ∧ (j + s.2.1) * S.sz k ≤ u ∧ (j + s.2.2) * S.sz k ≤ n
structure Pk (X : ι → Prop) (κ κ' : Ka ι) (w w' : World) : Prop where
  os : w'.os = w.os
  tape : w'.tape = w.tape
  output : w'.output = w.output
  size : w.heap.size ≤ w'.heap.size
  block : ∀ b, b < w.heap.size → κ b = none → w'.heap[b]? = w.heap[b]?
  free : ∀ b, b < w.heap.size → κ b = none → κ' b = none
  le : Kle κ κ'
  keep : ∀ b k n u, κ b = some (k, n, u) → ¬ X k → w'.heap[b]? = w.heap[b]?
theorem Kle.refl (κ : Ka ι) : Kle κ κ := fun _ _ _ u h => ⟨u, Nat.le_refl _, h⟩
theorem Kle.trans (h : Kle κ κ') (h' : Kle κ' κ'') : Kle κ κ'' := fun b k n u e => by
  obtain ⟨u1, l1, e1⟩ := h b k n u e
  obtain ⟨u2, l2, e2⟩ := h' b k n u1 e1
  exact ⟨u2, Nat.le_trans l1 l2, e2⟩
theorem Ty.lt (h : Ty S O κ w) {b n u : Nat} (e : κ b = some (k, n, u)) : b < w.heap.size := by
  obtain ⟨cs, hb, _⟩ := h b k n u e; exact hb.lt
theorem Ty.none_top (h : Ty S O κ w) {b : Nat} (hb : w.heap.size ≤ b) : κ b = none := by
  cases e : κ b with
  | none => rfl
  | some x => obtain ⟨k, n, u⟩ := x; have := h.lt e; omega
theorem Ty.frame (h : Ty S O κ w) (g : ∀ b, κ b ≠ none → w'.heap[b]? = w.heap[b]?) : Ty S O κ w' := fun b k n u e => by
  obtain ⟨cs, hb, r⟩ := h b k n u e
  exact ⟨cs, (g b (by rw [e]; simp)).trans hb, r⟩
theorem Ty.ext (h : Ty S O κ w) (x : Ext w w') : Ty S O κ w' := fun b k n u e => by
  obtain ⟨cs, hb, r⟩ := h b k n u e
  exact ⟨cs, hb.ext x, r⟩
theorem Ty.but {b : Nat} (h : Ty S O κ w) (x : But b w w') (hb : κ b = none) : Ty S O κ w' := h.frame fun b' h' => x.block b' fun e => h' (e ▸ hb)
theorem Ty.weak (h : Ty S O κ w) (g : ∀ k j v, O κ k j v → O' κ k j v) : Ty S O' κ w := fun b k n u e => by
  obtain ⟨cs, hb, h1, h2, r⟩ := h b k n u e
  exact ⟨cs, hb, h1, h2, fun i v hi hv => g _ _ _ (r i v hi hv)⟩
theorem Sl.le {s : SL} (h : Sl S κ k s) (l : Kle κ κ') : Sl S κ' k s := by
  rcases h with h | ⟨g, j, n, u, h1, h2, h3, h4, h5⟩
  · exact .inl h
  · obtain ⟨u', hu, h2'⟩ := l _ _ _ _ h2
    exact .inr ⟨g, j, n, u', h1, h2', h3, Nat.le_trans h4 hu, h5⟩
theorem Sl.nil (S : KS ι) (κ : Ka ι) (k : ι) : Sl S κ k (none, 0, 0) := .inl rfl
theorem Pk.refl (X : ι → Prop) (κ : Ka ι) (w : World) : Pk X κ κ w w := ⟨rfl, rfl, rfl, Nat.le_refl _, fun _ _ _ => rfl, fun _ _ h => h, Kle.refl κ, fun _ _ _ _ _ _ => rfl⟩
theorem Pk.ofExt (X : ι → Prop) (h : Ty S O κ w) (x : Ext w w') : Pk X κ κ w w' := ⟨x.os, x.tape, x.output, x.size, fun b hb _ => x.block b hb, fun _ _ h => h, Kle.refl κ, fun b _ _ _ e _ => x.block b (h.lt e)⟩
theorem Pk.trans {X : ι → Prop} (h : Pk X κ κ' w w') (g : Pk X κ' κ'' w' w'') : Pk X κ κ'' w w'' where
  os := g.os.trans h.os
  tape := g.tape.trans h.tape
  output := g.output.trans h.output
  size := Nat.le_trans h.size g.size
  block := fun b hb e => (g.block b (Nat.lt_of_lt_of_le hb h.size) (h.free b hb e)).trans (h.block b hb e)
  free := fun b hb e => g.free b (Nat.lt_of_lt_of_le hb h.size) (h.free b hb e)
  le := h.le.trans g.le
  keep := fun b k n u e hX => by
    obtain ⟨u', _, e'⟩ := h.le b k n u e
    exact (g.keep b k n u' e' hX).trans (h.keep b k n u e hX)
theorem Pk.mono {X Y : ι → Prop} (h : Pk X κ κ' w w') (g : ∀ k, X k → Y k) : Pk Y κ κ' w w' := ⟨h.os, h.tape, h.output, h.size, h.block, h.free, h.le, fun b k n u e hY => h.keep b k n u e fun hX => hY (g k hX)⟩
theorem Pk.blk {X : ι → Prop} (h : Pk X κ κ' w w') {b t : Nat} {cs : Array Value} (hb : Blk w b cs t) (e : κ b = none) : Blk w' b cs t := (h.block b hb.lt e).trans hb
theorem Pk.but {X : ι → Prop} {b : Nat} (h : Pk X κ κ' w w') (x : But b w' w'') (hb : w.heap.size ≤ b) (ht : κ b = none) : Pk X κ κ' w w'' :=
  ⟨x.os.trans h.os, x.tape.trans h.tape, x.output.trans h.output, by rw [x.size]; exact h.size, fun i hi e => (x.block i (by omega)).trans (h.block i hi e), h.free, h.le, fun i k n u e hX => by
    refine (x.block i fun hib => ?_).trans (h.keep i k n u e hX)
    rw [hib, ht] at e; cases e⟩
theorem Pk.butK {X : ι → Prop} {b n u : Nat} (h : Pk X κ κ' w w') (x : But b w' w'') (e : κ' b = some (k, n, u)) (hX : X k) : Pk X κ κ' w w'' where
  os := x.os.trans h.os
  tape := x.tape.trans h.tape
  output := x.output.trans h.output
  size := by rw [x.size]; exact h.size
  block := fun i hi e2 => by
    refine (x.block i fun hib => ?_).trans (h.block i hi e2)
    have := h.free i hi e2; rw [hib, e] at this; cases this
  free := h.free
  le := h.le
  keep := fun i k2 n2 u2 e2 hX2 => by
    refine (x.block i fun hib => ?_).trans (h.keep i k2 n2 u2 e2 hX2)
    obtain ⟨u3, _, e3⟩ := h.le _ _ _ _ e2
    rw [hib, e] at e3; cases e3; exact hX2 hX
theorem Ty.cell (h : Ty S O κ w) {b n u i : Nat} (e : κ b = some (k, n, u)) (hi : i < u) : ∃ v, w.cell? ⟨b, i, none⟩ = some v ∧ O κ k (i % S.sz k) v := by
  obtain ⟨cs, hb, h1, h2, r⟩ := h b k n u e
  have hi' : i < cs.size := by omega
  exact ⟨cs[i], by rw [hb.cell, Array.getElem?_eq_getElem hi'], r i _ hi (Array.getElem?_eq_getElem hi')⟩
theorem Sl.at_ {s : SL} (hs : Sl S κ k s) (h : Ty S O κ w) {i : Nat} (hi : i < s.2.1) : ∃ g o n u, s.1 = some ⟨g, o, none⟩ ∧ κ g = some (k, n, u) ∧
    ∀ j, j < S.sz k → o + i * S.sz k + j < u ∧ (o + i * S.sz k + j) % S.sz k = j ∧ ∃ v, w.cell? ⟨g, o + i * S.sz k + j, none⟩ = some v ∧ O κ k j v := by
  rcases hs with rfl | ⟨g, j0, n, u, h1, h2, h3, h4, h5⟩
  · simp at hi
  refine ⟨g, j0 * S.sz k, n, u, h1, h2, fun j hj => ?_⟩
  have e1 : j0 * S.sz k + i * S.sz k + j = (j0 + i) * S.sz k + j := by rw [Nat.add_mul]
  have e2 : (j0 + i + 1) * S.sz k ≤ (j0 + s.2.1) * S.sz k := Nat.mul_le_mul_right _ (by omega)
  rw [Nat.succ_mul] at e2
  have e3 : j0 * S.sz k + i * S.sz k + j < u := by rw [e1]; omega
  have e4 : (j0 * S.sz k + i * S.sz k + j) % S.sz k = j := by rw [e1, Nat.mul_comm, Nat.mul_add_mod, Nat.mod_eq_of_lt hj]
  obtain ⟨v, hv, ho⟩ := h.cell h2 e3
  rw [e4] at ho
  exact ⟨e3, e4, v, hv, ho⟩
theorem Ty.set (h : Ty S O κ w) {b n u i : Nat} {v : Value} (e : κ b = some (k, n, u)) (hi : i < u) (hv : O κ k (i % S.sz k) v) {F : World → Prop} (f : ∀ w', Ty S O κ w' → But b w w' → F w') : SetK w ⟨b, i, none⟩ v F := by
  obtain ⟨cs, hb, h1, h2, r⟩ := h b k n u e
  refine SetK.mk hb (by omega) fun w' hb' bu => f w' (fun b2 k2 n2 u2 e2 => ?_) bu
  by_cases hbb : b2 = b
  · subst hbb
    rw [e] at e2; cases e2
    refine ⟨_, hb', by simpa using h1, h2, fun i2 v2 hi2 hv2 => ?_⟩
    rw [Array.getElem?_setIfInBounds] at hv2
    split at hv2
    · rename_i hii; subst hii
      rw [if_pos (by omega)] at hv2; cases hv2; exact hv
    · exact r i2 v2 hi2 hv2
  · obtain ⟨cs2, hb2, r2⟩ := h b2 k2 n2 u2 e2
    exact ⟨cs2, bu.blk hb2 hbb, r2⟩
def Ka.put (κ : Ka ι) (b : Nat) (k : ι) (n u : Nat) : Ka ι := fun x => if x = b then some (k, n, u) else κ x
theorem Ka.put_same (κ : Ka ι) (b : Nat) (k : ι) (n u : Nat) : κ.put b k n u b = some (k, n, u) := by simp [Ka.put]
theorem Kle.put {b n u : Nat} (h : κ b = none) : Kle κ (κ.put b k n u) := fun b' k' n' u' e => ⟨u', Nat.le_refl _, by
  unfold Ka.put; rw [if_neg (fun hb => by rw [hb, h] at e; cases e)]; exact e⟩
theorem Kle.grow {b n u u' : Nat} (h : κ b = some (k, n, u)) (hu : u ≤ u') : Kle κ (κ.put b k n u') := fun b2 k2 n2 u2 e => by
  by_cases hb : b2 = b
  · subst hb; rw [h] at e; cases e; exact ⟨u', hu, Ka.put_same _ _ _ _ _⟩
  · exact ⟨u2, Nat.le_refl _, by unfold Ka.put; rw [if_neg hb]; exact e⟩
theorem Ty.put (hM : OkM O) (h : Ty S O κ w) {b u : Nat} {cs : Array Value} (hb : Blk w b cs (S.ty k)) (e : κ b = none) (hu : u ≤ cs.size) (hO : ∀ i v, i < u → cs[i]? = some v → O (κ.put b k cs.size u) k (i % S.sz k) v) : Ty S O (κ.put b k cs.size u) w := fun b2 k2 n2 u2 e2 => by
  unfold Ka.put at e2
  split at e2
  · rename_i hbb; subst hbb; cases e2
    exact ⟨cs, hb, rfl, hu, hO⟩
  · obtain ⟨cs2, h1, h2, h3, r⟩ := h b2 k2 n2 u2 e2
    exact ⟨cs2, h1, h2, h3, fun i v hi hv => hM.mono _ _ _ _ _ (Kle.put e) (r i v hi hv)⟩
theorem Pk.put {X : ι → Prop} {b n u : Nat} (h : Pk X κ κ' w w') (hb : w.heap.size ≤ b) (e : κ' b = none) : Pk X κ (κ'.put b k n u) w w' :=
  ⟨h.os, h.tape, h.output, h.size, h.block, fun i hi e2 => by unfold Ka.put; rw [if_neg (by omega)]; exact h.free i hi e2, h.le.trans (Kle.put e), h.keep⟩
theorem Ty.new (hM : OkM O) (h : Ty S O κ w) (k : ι) {cs : Array Value} (hO : ∀ κ' i v, Kle κ κ' → cs[i]? = some v → O κ' k (i % S.sz k) v) {X : ι → Prop} {F : Addr → World → Prop}
    (f : ∀ b w' κ', b = w.heap.size → κ' b = some (k, cs.size, cs.size) → Ty S O κ' w' → Pk X κ κ' w w' → F ⟨b, 0, none⟩ w') : AllocK w cs (S.ty k) F :=
  AllocK.mk fun b w' hb hB hx => by
    have h' := h.ext hx
    have e : κ b = none := h.none_top (by omega)
    exact f b w' (κ.put b k cs.size cs.size) hb (Ka.put_same _ _ _ _ _) (h'.put hM hB e (Nat.le_refl _) fun i v _ hv => hO _ i v (Kle.put e) hv) ((Pk.ofExt X h hx).put (by omega) e)
theorem Sl.cut {a : Option Addr} {l c lo hi : Nat} (h : Sl S κ k (a, l, c)) (h1 : lo ≤ hi) (h2 : hi ≤ l) : Sl S κ k (if c = lo then a else a.map (·.add (lo * S.sz k)), hi - lo, c - lo) := by
  rcases h with h | ⟨g, j, n, u, e1, e2, e3, e4, e5⟩
  · cases h; left; simp only [Prod.mk.injEq]; refine ⟨by split <;> rfl, by omega, by omega⟩
  · simp only at e1 e3 e4 e5; subst e1
    by_cases hc : c = lo
    · rw [if_pos hc]
      refine .inr ⟨g, j, n, u, rfl, e2, by show hi - lo ≤ c - lo; omega, ?_, ?_⟩
      · exact Nat.le_trans (Nat.mul_le_mul_right _ (by show j + (hi - lo) ≤ j + l; omega)) e4
      · exact Nat.le_trans (Nat.mul_le_mul_right _ (by show j + (c - lo) ≤ j + c; omega)) e5
    · rw [if_neg hc]
      refine .inr ⟨g, j + lo, n, u, by simp [add_mk, Nat.add_mul], e2, by show hi - lo ≤ c - lo; omega, ?_, ?_⟩
      · exact Nat.le_trans (Nat.mul_le_mul_right _ (by show j + lo + (hi - lo) ≤ j + l; omega)) e4
      · exact Nat.le_trans (Nat.mul_le_mul_right _ (by show j + lo + (c - lo) ≤ j + c; omega)) e5
theorem Sl.news (h : Ty S O κ w) {a : Option Addr} {l c : Nat} (hs : Sl S κ k (a, l, c)) : (a = none ∧ l = 0) ∨ ∃ (p : Addr) (news : List Value), a = some p ∧ news.length = l * S.sz k ∧
    (∀ j u, news[j]? = some u → w.cell? (p.add j) = some u) ∧ ∀ j u, news[j]? = some u → O κ k (j % S.sz k) u := by
  rcases hs with hs | ⟨g, j0, n, u, e1, e2, e3, e4, e5⟩
  · cases hs; exact .inl ⟨rfl, rfl⟩
  · simp only at e1 e3 e4 e5; subst e1
    obtain ⟨cs, hb, h1, h2, r⟩ := h g k n u e2
    rw [Nat.add_mul] at e4
    refine .inr ⟨_, (cs.toList.drop (j0 * S.sz k)).take (l * S.sz k), rfl, by rw [List.length_take, List.length_drop, Array.length_toList]; omega, fun j v hv => ?_, fun j v hv => ?_⟩
    · have hj : j < l * S.sz k := by have := (List.getElem?_eq_some_iff.1 hv).1; rw [List.length_take] at this; omega
      rw [List.getElem?_take_of_lt hj, List.getElem?_drop, Array.getElem?_toList] at hv
      rw [add_mk, hb.cell]; exact hv
    · have hj : j < l * S.sz k := by have := (List.getElem?_eq_some_iff.1 hv).1; rw [List.length_take] at this; omega
      rw [List.getElem?_take_of_lt hj, List.getElem?_drop, Array.getElem?_toList] at hv
      have := r _ v (by omega) hv
      rwa [Nat.mul_comm, Nat.mul_add_mod] at this
theorem Sl.ofOwn (hM : OkM O) (h : Ty S O κ w) {v : Value} {n : Nat} {xs : List Value} (ho : w'.ownsRow w.heap.size (S.ty k) (S.sz k) v n xs) (hg : w.grownBy w' none) (hO : ∀ j u, xs[j]? = some u → O κ k (j % S.sz k) u) :
    ∃ s' κ', v = .slice s'.1 s'.2.1 s'.2.2 ∧ Ty S O κ' w' ∧ Sl S κ' k s' ∧ s'.2.1 = n ∧ Pk (· = k) κ κ' w w' := by
  have hx : Ext w w' := Ext.grown hg rfl
  obtain ⟨hl, ho⟩ := ho
  rcases ho with ⟨rfl, h0⟩ | ⟨g, cap, cur, rfl, hbg, hg2, h3, h4, h5, h6⟩
  · have hn : n = 0 := by
      have := S.pos k
      rw [h0] at hl
      rcases Nat.eq_zero_or_pos n with h | h
      · exact h
      · have := Nat.mul_pos h this; simp at hl; omega
    exact ⟨(none, 0, 0), κ, rfl, h.ext hx, .inl rfl, hn.symm, Pk.ofExt _ h hx⟩
  · have h' := h.ext hx
    have e : κ g = none := h.none_top hbg
    have hle : n * S.sz k ≤ cur.size := by rw [h5]; exact Nat.mul_le_mul_right _ h3
    refine ⟨(some ⟨g, 0, none⟩, n, cap), κ.put g k cur.size (n * S.sz k), rfl, h'.put hM hg2 e hle fun i u hi hu => ?_, .inr ⟨g, 0, cur.size, n * S.sz k, by simp, Ka.put_same _ _ _ _ _, h3, by simp, by simp [h5]⟩, rfl, (Pk.ofExt _ h hx).put hbg e⟩
    refine hM.mono _ _ _ _ _ (Kle.put e) (hO i u ?_)
    rw [← h6, List.getElem?_take_of_lt hi, Array.getElem?_toList]; exact hu
theorem Sl.appendC {P : Program} {t ty bytes : Nat} (hM : OkM O) (H : SlT P t (S.ty k) (S.sz k) bytes) (h : Ty S O κ w) {a : Option Addr} {l c : Nat} (hs : Sl S κ k (a, l, c)) (ad : Addr) (m c2 : Nat) (news : List Value) (hl : news.length = m * S.sz k)
    (hc : ∀ j u, news[j]? = some u → w.cell? (ad.add j) = some u) (hO : ∀ j u, news[j]? = some u → O κ k (j % S.sz k) u) (hlen : (l + m) * bytes ≤ 140737488355328) :
    ∃ a' c' w' κ', Sem.run P (Builtin.append_ #[t, t] ty #[.slice a l c, .slice (some ad) m c2]) w = .ok (.slice a' (l + m) c') w' ∧ Ty S O κ' w' ∧ Sl S κ' k (a', l + m, c') ∧ Pk (· = k) κ κ' w w' := by
  obtain ⟨i, z, hi, hz, hsz, hby, hzs⟩ := H.info
  have h1 : ∀ u ∈ news, u.oneCell' = true := fun u hu => by
    obtain ⟨j, hj⟩ := List.getElem?_of_mem hu
    exact hM.one _ _ _ _ (hO j u hj)
  have h63 : l + m ≤ maxLen := by
    have := Nat.le_mul_of_pos_right (l + m) H.posB
    simp only [maxLen]; omega
  have fin : ∀ {v : Value} {w' : World} {xs : List Value}, Sem.run P (Builtin.append_ #[t, t] ty #[.slice a l c, .slice (some ad) m c2]) w = .ok v w' → w'.ownsRow w.heap.size (S.ty k) (S.sz k) v (l + m) xs → w.grownBy w' none → (∀ j u, xs[j]? = some u → O κ k (j % S.sz k) u) →
      ∃ a' c' w' κ', Sem.run P (Builtin.append_ #[t, t] ty #[.slice a l c, .slice (some ad) m c2]) w = .ok (.slice a' (l + m) c') w' ∧ Ty S O κ' w' ∧ Sl S κ' k (a', l + m, c') ∧ Pk (· = k) κ κ' w w' := by
    intro v w' xs hr ho hg hx
    obtain ⟨⟨a', l', c'⟩, κ', rfl, h2, h3, h4, h5⟩ := Sl.ofOwn hM h ho hg hx
    simp only at h4; subst h4
    exact ⟨a', c', w', κ', hr, h2, h3, h5⟩
  rcases hs with hs | ⟨g, j0, n, u, e1, e2, e3, e4, e5⟩
  · cases hs
    obtain ⟨v', w', q1, q2, q3, _, _⟩ := run_append_own_at (P := P) w w.heap.size t ty (S.ty k) i z (S.sz k) bytes H.under hi hz hsz hby hzs H.pos (.slice none 0 0) 0 [] (World.ownsRow_nil _ _ _ _) ad m c2 news hl hc h1 (by omega) (by simpa using hlen) (Nat.le_refl _)
    exact fin q1 (by simpa using q2) q3 (by simpa using hO)
  · simp only at e1 e3 e4 e5; subst e1
    obtain ⟨cs, hb, f1, f2, r⟩ := h g k n u e2
    have e4' := e4; have e5' := e5
    rw [Nat.add_mul] at e4' e5'
    by_cases hroom : l + m ≤ c
    · have hm : (l + m) * S.sz k ≤ c * S.sz k := Nat.mul_le_mul_right _ hroom
      rw [Nat.add_mul] at hm
      have hr := run_append_room_cells (P := P) w t ty (S.ty k) i H.under hi g (j0 * S.sz k) l c ad m c2 news (by rw [hsz]; exact hl) hc h1 hroom (fun j hj => by
        rw [hsz, hb.cell, Array.getElem?_eq_getElem (by omega)]; rfl) (fun j hj => hb.frozen _)
      rw [hsz] at hr
      obtain ⟨hb', bu⟩ := setCells_blk (g := g) (t := S.ty k) news w cs (j0 * S.sz k + l * S.sz k) hb
      refine ⟨_, _, _, κ.put g k n (max u ((j0 + (l + m)) * S.sz k)), hr, fun b2 k2 n2 u2 hk2 => ?_, .inr ⟨g, j0, n, _, rfl, Ka.put_same _ _ _ _ _, hroom, Nat.le_max_right _ _, e5⟩, ?_⟩
      · have hle := Kle.grow e2 (Nat.le_max_left u ((j0 + (l + m)) * S.sz k))
        unfold Ka.put at hk2
        split at hk2
        · rename_i hbb; subst hbb; cases hk2
          refine ⟨_, hb', by rw [putL_size]; exact f1, ?_, fun i2 v2 hi2 hv2 => ?_⟩
          · rw [Nat.max_le]; refine ⟨f2, Nat.le_trans (Nat.mul_le_mul_right _ ?_) e5⟩; omega
          · refine hM.mono _ _ _ _ _ hle ?_
            rw [putL_get _ _ _ (by omega)] at hv2
            split at hv2
            · rename_i hin
              have := hO _ _ hv2
              have e6 : i2 = (j0 + l) * S.sz k + (i2 - (j0 * S.sz k + l * S.sz k)) := by rw [Nat.add_mul]; omega
              rw [e6, Nat.mul_comm, Nat.mul_add_mod]; exact this
            · rename_i hin
              refine r i2 v2 ?_ hv2
              have : (j0 + (l + m)) * S.sz k = j0 * S.sz k + l * S.sz k + m * S.sz k := by rw [Nat.add_mul, Nat.add_mul]; omega
              omega
        · obtain ⟨cs2, p1, p2, p3, r2⟩ := h b2 k2 n2 u2 hk2
          exact ⟨cs2, bu.blk p1 (by rename_i hne; exact hne), p2, p3, fun i2 v2 hi2 hv2 => hM.mono _ _ _ _ _ hle (r2 i2 v2 hi2 hv2)⟩
      · refine ⟨bu.os, bu.tape, bu.output, by rw [bu.size]; exact Nat.le_refl _, fun b hb2 hn => bu.block b (fun e => by rw [e, e2] at hn; cases hn), fun b hb2 hn => ?_, Kle.grow e2 (Nat.le_max_left _ _), fun b k2 n2 u2 hk2 hX => bu.block b (fun e => ?_)⟩
        · unfold Ka.put; rw [if_neg (fun e => by rw [e, e2] at hn; cases hn)]; exact hn
        · rw [e, e2] at hk2; cases hk2; exact hX rfl
    · have holds : ∀ j u, ((cs.toList.drop (j0 * S.sz k)).take (l * S.sz k))[j]? = some u → w.cell? ((⟨g, j0 * S.sz k, none⟩ : Addr).add j) = some u := fun j v hv => by
        have hj : j < l * S.sz k := by have := (List.getElem?_eq_some_iff.1 hv).1; rw [List.length_take] at this; omega
        rw [List.getElem?_take_of_lt hj, List.getElem?_drop, Array.getElem?_toList] at hv
        rw [add_mk, hb.cell]; exact hv
      have hol : ((cs.toList.drop (j0 * S.sz k)).take (l * S.sz k)).length = l * S.sz k := by rw [List.length_take, List.length_drop, Array.length_toList]; omega
      obtain ⟨v', w', q1, q2, q3⟩ := run_append_arg_grows (P := P) w t ty (S.ty k) i z (S.sz k) bytes H.under hi hz hsz hby hzs H.pos ⟨g, j0 * S.sz k, none⟩ l c _ hol holds ad m c2 news hl hc (by omega) h63 hlen
      refine fin q1 q2 q3 fun j v hv => ?_
      rcases Nat.lt_or_ge j (l * S.sz k) with hj | hj
      · rw [List.getElem?_append_left (by rw [hol]; exact hj), List.getElem?_take_of_lt hj, List.getElem?_drop, Array.getElem?_toList] at hv
        have := r _ v (by omega) hv
        rwa [Nat.mul_comm, Nat.mul_add_mod] at this
      · rw [List.getElem?_append_right (by rw [hol]; exact hj), hol] at hv
        have := hO _ v hv
        have e6 : j = l * S.sz k + (j - l * S.sz k) := by omega
        rw [e6, Nat.mul_comm l, Nat.mul_add_mod, Nat.mul_comm (S.sz k)]; exact this
theorem Sl.push {P : Program} {t ty te bytes : Nat} (hM : OkM O) (H : SlT P t (S.ty k) (S.sz k) bytes) (h : Ty S O κ w) {a : Option Addr} {l c : Nat} (hs : Sl S κ k (a, l, c)) {cs : Array Value} (hcs : cs.size = S.sz k)
    (hO : ∀ j v, cs[j]? = some v → O κ k j v) (hlen : (l + 1) * bytes ≤ 140737488355328) {F : Option Addr → Nat → Nat → World → Prop}
    (f : ∀ a' c' w' κ', Ty S O κ' w' → Sl S κ' k (a', l + 1, c') → Pk (· = k) κ κ' w w' → F a' (l + 1) c' w') :
    AllocK w cs te fun b w1 => ∃ a' l' c' w2, Sem.run P (Builtin.append_ #[t, t] ty #[.slice a l c, .slice (some b) 1 1]) w1 = .ok (.slice a' l' c') w2 ∧ F a' l' c' w2 := by
  refine AllocK.mk fun b w1 hb hB hx => ?_
  obtain ⟨a', c', w', κ', q1, q2, q3, q4⟩ := Sl.appendC (ty := ty) hM H (h.ext hx) hs ⟨b, 0, none⟩ 1 1 cs.toList (by simp [hcs]) (fun j u hj => by rw [add_mk, Nat.zero_add, hB.cell, ← Array.getElem?_toList]; exact hj)
    (fun j u hj => by
      have hj2 : j < S.sz k := by rw [← hcs, ← Array.length_toList]; exact (List.getElem?_eq_some_iff.1 hj).1
      rw [Nat.mod_eq_of_lt hj2]; exact hO j u (by rw [← Array.getElem?_toList]; exact hj)) hlen
  exact ⟨a', _, c', w', q1, f a' c' w' κ' q2 q3 ((Pk.ofExt _ h hx).trans q4)⟩
theorem Sl.append {P : Program} {t ty bytes : Nat} (hM : OkM O) (H : SlT P t (S.ty k) (S.sz k) bytes) (h : Ty S O κ w) {a : Option Addr} {l c : Nat} (hs : Sl S κ k (a, l, c)) {a2 : Option Addr} {m c2 : Nat} (hs2 : Sl S κ k (a2, m, c2)) (hlen : (l + m) * bytes ≤ 140737488355328) :
    ∃ a' c' w' κ', Sem.run P (Builtin.append_ #[t, t] ty #[.slice a l c, .slice a2 m c2]) w = .ok (.slice a' (l + m) c') w' ∧ Ty S O κ' w' ∧ Sl S κ' k (a', l + m, c') ∧ Pk (· = k) κ κ' w w' := by
  rcases Sl.news h hs2 with ⟨rfl, rfl⟩ | ⟨p, news, rfl, hl, hc, hO⟩
  · obtain ⟨i, z, hi, hz, hsz, hby, hzs⟩ := H.info
    have hlc : l ≤ c := by rcases hs with hs | ⟨_, _, _, _, _, _, h3, _⟩; · cases hs; exact Nat.le_refl _
                           · exact h3
    refine ⟨a, c, w, κ, ?_, h, hs, Pk.refl _ _ _⟩
    cases a <;> simp [Builtin.append_, run_underlying H.under, sizeOf, typeInfo, hi, hlc, Builtin.lenOf, Builtin.firstCells, storeCells]
  · exact Sl.appendC hM H h hs p m c2 news hl hc hO hlen
theorem Sl.lc {a : Option Addr} {l c : Nat} (hs : Sl S κ k (a, l, c)) : l ≤ c := by
  rcases hs with hs | ⟨_, _, _, _, _, _, h3, _⟩
  · cases hs; exact Nat.le_refl _
  · exact h3
theorem Pk.exts {X Y : ι → Prop} (p : Pk Y κ κ' w w') (h : Ty S O κ w) (x : Ext w w') : Pk X κ κ' w w' := ⟨p.os, p.tape, p.output, p.size, p.block, p.free, p.le, fun b _ _ _ e _ => x.block b (h.lt e)⟩
theorem Sl.copy {P : Program} {t ty bytes : Nat} (hM : OkM O) (H : SlT P t (S.ty k) (S.sz k) bytes) {w0 : World} (h0 : Ty S O κ w0) (hx0 : Ext w0 w) {b : Nat} (hb : Blk w b #[] (S.ty k)) (hb0 : w0.heap.size ≤ b) {a2 : Option Addr} {m c2 : Nat} (hs2 : Sl S κ k (a2, m, c2)) (hlen : m * bytes ≤ 140737488355328) :
    ∃ a' c' w' κ', Sem.run P (Builtin.append_ #[t, t] ty #[.slice (some ⟨b, 0, none⟩) 0 0, .slice a2 m c2]) w = .ok (.slice a' m c') w' ∧ Ty S O κ' w' ∧ Sl S κ' k (a', m, c') ∧ Ext w w' ∧ ∀ X, Pk X κ κ' w0 w' := by
  obtain ⟨i, z, hi, hz, hsz, hby, hzs⟩ := H.info
  have h := h0.ext hx0
  have h0' := h0
  have hn : κ b = none := h0.none_top hb0
  have nothing : ∀ x : Option Addr, Sem.run P (Builtin.append_ #[t, t] ty #[.slice (some ⟨b, 0, none⟩) 0 0, .slice x 0 c2]) w = .ok (.slice (some ⟨b, 0, none⟩) 0 0) w →
      ∃ a' c' w' κ', Sem.run P (Builtin.append_ #[t, t] ty #[.slice (some ⟨b, 0, none⟩) 0 0, .slice x 0 c2]) w = .ok (.slice a' 0 c') w' ∧ Ty S O κ' w' ∧ Sl S κ' k (a', 0, c') ∧ Ext w w' ∧ ∀ X, Pk X κ κ' w0 w' := by
    intro x hr
    exact ⟨_, _, w, κ.put b k 0 0, hr, h.put hM hb hn (Nat.le_refl _) (fun i v hi => by omega), .inr ⟨b, 0, 0, 0, by simp, Ka.put_same _ _ _ _ _, Nat.le_refl _, by simp, by simp⟩, Ext.refl _, fun X => (Pk.ofExt X h0 hx0).put hb0 hn⟩
  rcases Sl.news h hs2 with ⟨rfl, rfl⟩ | ⟨p, news, rfl, hl, hc, hO⟩
  · refine nothing none ?_
    simp [Builtin.append_, run_underlying H.under, sizeOf, typeInfo, hi, Builtin.lenOf, Builtin.firstCells, storeCells]
  · rcases Nat.eq_zero_or_pos m with h0 | h0
    · subst h0
      refine nothing _ ?_
      exact run_append_room_cells (P := P) w t ty (S.ty k) i H.under hi b 0 0 0 p 0 c2 [] (by simp) (fun j u hj => by simp at hj) (fun u hu => by cases hu) (Nat.le_refl _) (fun j hj => by simp at hj) (fun j hj => by simp at hj)
    · have h63 : 0 + m ≤ maxLen := by
        have := Nat.le_mul_of_pos_right m H.posB
        simp only [maxLen]; omega
      obtain ⟨v', w', q1, q2, q3⟩ := run_append_arg_grows (P := P) w t ty (S.ty k) i z (S.sz k) bytes H.under hi hz hsz hby hzs H.pos ⟨b, 0, none⟩ 0 0 [] (by simp) (fun j u hj => by simp at hj) p m c2 news hl hc (by omega) h63 (by simpa using hlen)
      obtain ⟨⟨a', l', c'⟩, κ', rfl, e2, e3, e4, e5⟩ := Sl.ofOwn hM h q2 q3 (by simpa using hO)
      rw [Nat.zero_add] at e4; dsimp only at e4; subst e4
      have hx : Ext w w' := Ext.grown q3 rfl
      exact ⟨a', c', w', κ', q1, e2, e3, hx, fun X => (Pk.ofExt X h0' hx0).trans (e5.exts h hx)⟩
def subK (κ : Ka ι) (P : ι → Bool) (w : World) : World := { w with heap := w.heap.mapIdx fun i o => match κ i with | some (k, _, _) => if P k then o else .cells #[] 0 (0, 0) | none => .cells #[] 0 (0, 0) }
theorem subK_cell {P : ι → Bool} {b n u : Nat} (e : κ b = some (k, n, u)) (hP : P k = true) (i : Nat) : (subK κ P w).cell? ⟨b, i, none⟩ = w.cell? ⟨b, i, none⟩ := by
  have : (subK κ P w).heap[b]? = w.heap[b]? := by
    simp only [subK, Array.getElem?_mapIdx]
    cases w.heap[b]? with
    | none => rfl
    | some o => simp [e, hP]
  exact World.cell?_of_block this
theorem subK_cel {P : ι → Bool} (h : ∀ b k n u, κ b = some (k, n, u) → P k = true → b < w.heap.size → w'.heap[b]? = w.heap[b]?) : Cel (subK κ P w) w' := fun p v hp => by
  have hlt : p.block < w.heap.size := by have := block_lt_of_cell hp; simpa [subK] using this
  have hget : (subK κ P w).heap[p.block]? = some (match κ p.block with | some (k, _, _) => if P k then w.heap[p.block] else .cells #[] 0 (0, 0) | none => .cells #[] 0 (0, 0)) := by
    simp only [subK, Array.getElem?_mapIdx, Array.getElem?_eq_getElem hlt]; rfl
  cases e : κ p.block with
  | none => rw [e] at hget; unfold World.cell? at hp; rw [hget] at hp; simp at hp
  | some x =>
    obtain ⟨k, n, u⟩ := x
    rw [e] at hget
    cases hP : P k with
    | false => simp only [hP] at hget; unfold World.cell? at hp; rw [hget] at hp; simp at hp
    | true =>
      simp only [hP, if_true] at hget
      have e2 : w'.heap[p.block]? = (subK κ P w).heap[p.block]? := by rw [h _ _ _ _ e hP hlt, hget, Array.getElem?_eq_getElem hlt]
      rw [World.cell?_of_block e2]; exact hp
theorem Pk.celK {X : ι → Prop} {P : ι → Bool} (p : Pk X κ κ' w w') (hX : ∀ k, P k = true → ¬ X k) : Cel (subK κ P w) w' := subK_cel fun b k n u e hP _ => p.keep b k n u e (hX k hP)
theorem Sl.pushB {P : Program} {t ty bytes : Nat} (hM : OkM O) (H : SlT P t (S.ty k) (S.sz k) bytes) (h : Ty S O κ w) {a : Option Addr} {l c : Nat} (hs : Sl S κ k (a, l, c)) {b tb : Nat} {cs : Array Value} (hB : Blk w b cs tb) (hcs : cs.size = S.sz k)
    (hO : ∀ j v, cs[j]? = some v → O κ k j v) (hlen : (l + 1) * bytes ≤ 140737488355328) :
    ∃ a' c' w' κ', Sem.run P (Builtin.append_ #[t, t] ty #[.slice a l c, .slice (some ⟨b, 0, none⟩) 1 1]) w = .ok (.slice a' (l + 1) c') w' ∧ Ty S O κ' w' ∧ Sl S κ' k (a', l + 1, c') ∧ Pk (· = k) κ κ' w w' :=
  Sl.appendC (ty := ty) hM H h hs ⟨b, 0, none⟩ 1 1 cs.toList (by simp [hcs]) (fun j u hj => by rw [add_mk, Nat.zero_add, hB.cell, ← Array.getElem?_toList]; exact hj)
    (fun j u hj => by
      have hj2 : j < S.sz k := by rw [← hcs, ← Array.length_toList]; exact (List.getElem?_eq_some_iff.1 hj).1
      rw [Nat.mod_eq_of_lt hj2]; exact hO j u (by rw [← Array.getElem?_toList]; exact hj)) hlen
end
end Go.V

namespace Go.Proofs.YtgggbmikmmljcaaGreat
open Go Go.V Go.Proofs
open Go.RowKit (Below)
inductive RK where
  | st | clk | ths | idx | tabI | tabB | ints | bools | pas | ord | fly | sets
  deriving DecidableEq
def Kr : KS RK where
  ty k := match k with
    | .st => 50 | .clk => 3 | .ths => 98 | .idx => 3 | .tabI => 43 | .tabB => 84
    | .ints => 3 | .bools => 4 | .pas => 104 | .ord => 93 | .fly => 40 | .sets => 43
  sz k := match k with
    | .st => 12 | .clk => 1 | .ths => 7 | .idx => 1 | .tabI => 1 | .tabB => 1 | .ints => 1 | .bools => 1 | .pas => 3 | .ord => 2 | .fly => 8 | .sets => 1
  pos k := by cases k <;> decide
structure Prm where
  s : Nat
  n : Nat
  p : Nat
  o : Nat
  h : Nat
  f : Nat
structure Rb where
  b : Nat
  gw : Nat
  ga : Nat
  gm : Nat
  gl : Nat
def isSite (N : Prm) (v : Value) : Prop := ∃ x, v = .int .i64 x ∧ 0 ≤ x ∧ x < N.s
def isIdx (N : Prm) (v : Value) : Prop := ∃ x, v = .int .i64 x ∧ 1 ≤ x ∧ x ≤ N.n
def anInt (v : Value) : Prop := ∃ x, v = .int .i64 x
def aBool (v : Value) : Prop := ∃ x, v = .bool x
def slK (κ : Ka RK) (k : RK) (m : Nat) (v : Value) : Prop := ∃ a l c, v = .slice a l c ∧ Sl Kr κ k (a, l, c) ∧ l ≤ m
def Or (N : Prm) (r : Rb) : OkF RK := fun κ k j v => match k with
  | .st => match j with
    | 0 => v = .int .i64 N.s
    | 1 | 2 => anInt v
    | 3 => ∃ a c, v = .slice a N.s c ∧ Sl Kr κ .clk (a, N.s, c)
    | 4 => ∃ a c, v = .slice a N.n c ∧ Sl Kr κ .ths (a, N.n, c)
    | 5 => v = .slice (some ⟨r.gw, 0, none⟩) N.s N.s
    | 6 => v = .slice (some ⟨r.ga, 0, none⟩) N.s N.s
    | 7 => v = .slice (some ⟨r.gm, 0, none⟩) N.s N.s
    | 8 => v = .slice (some ⟨r.gl, 0, none⟩) N.s N.s
    | 9 => slK κ .pas N.p v
    | 10 => slK κ .ord N.o v
    | 11 => slK κ .fly N.f v
    | _ => False
  | .clk | .ints => anInt v
  | .idx => isIdx N v
  | .ths => match j with
    | 0 => isSite N v
    | 1 | 2 => anInt v
    | 3 | 4 | 5 => aBool v
    | 6 => slK κ .idx N.h v
    | _ => False
  | .tabI | .tabB => ∃ a l c, v = .slice a l c
  | .bools => aBool v
  | .pas => match j with
    | 0 | 1 => isSite N v
    | 2 => isIdx N v
    | _ => False
  | .ord => isIdx N v
  | .fly => match j with
    | 0 | 1 => isSite N v
    | 2 => ∃ s, v = .string s
    | 3 => isIdx N v
    | 4 | 5 | 6 => anInt v
    | 7 => ∃ a l c, v = .slice a l c
    | _ => False
  | .sets => ∃ a l c, v = .slice a l c ∧ Sl Kr κ .ints (a, l, c)
theorem slK.le {κ κ' : Ka RK} {k : RK} {m m' : Nat} {v : Value} (h : slK κ k m v) (l : Kle κ κ') (hm : m ≤ m') : slK κ' k m' v := by
  obtain ⟨a, l', c, e, hs, hl⟩ := h; exact ⟨a, l', c, e, hs.le l, Nat.le_trans hl hm⟩
theorem okR (N : Prm) (r : Rb) : OkM (Or N r) where
  mono κ κ' k j v hk h := by
    cases k <;> simp only [Or] at h ⊢ <;> try exact h
    · split at h
      · exact h
      · exact h
      · exact h
      · obtain ⟨a, c, e, hs⟩ := h; exact ⟨a, c, e, hs.le hk⟩
      · obtain ⟨a, c, e, hs⟩ := h; exact ⟨a, c, e, hs.le hk⟩
      · exact h
      · exact h
      · exact h
      · exact h
      · exact h.le hk (Nat.le_refl _)
      · exact h.le hk (Nat.le_refl _)
      · exact h.le hk (Nat.le_refl _)
      · exact h.elim
    · split at h
      · exact h
      · exact h
      · exact h
      · exact h
      · exact h
      · exact h
      · exact h.le hk (Nat.le_refl _)
      · exact h.elim
    · obtain ⟨a, l, c, e, hs⟩ := h; exact ⟨a, l, c, e, hs.le hk⟩
  one κ k j v h := by
    have hi : ∀ {v}, anInt v → v.oneCell' = true := by rintro _ ⟨x, rfl⟩; rfl
    have hb : ∀ {v}, aBool v → v.oneCell' = true := by rintro _ ⟨x, rfl⟩; rfl
    have hs : ∀ {v}, isSite N v → v.oneCell' = true := by rintro _ ⟨x, rfl, _⟩; rfl
    have hx : ∀ {v}, isIdx N v → v.oneCell' = true := by rintro _ ⟨x, rfl, _⟩; rfl
    have hl : ∀ {κ k m v}, slK κ k m v → v.oneCell' = true := by rintro _ _ _ _ ⟨a, l, c, rfl, _⟩; rfl
    cases k <;> simp only [Or] at h
    · split at h <;> first | exact h.elim | exact hi h | exact hl h | (subst h; rfl) | (obtain ⟨a, c, rfl, _⟩ := h; rfl)
    · exact hi h
    · split at h <;> first | exact h.elim | exact hi h | exact hl h | exact hs h | exact hb h
    · exact hx h
    · obtain ⟨a, l, c, rfl⟩ := h; rfl
    · obtain ⟨a, l, c, rfl⟩ := h; rfl
    · exact hi h
    · exact hb h
    · split at h <;> first | exact h.elim | exact hs h | exact hx h
    · exact hx h
    · split at h <;> first | exact h.elim | exact hs h | exact hx h | exact hi h | (obtain ⟨s, rfl⟩ := h; rfl) | (obtain ⟨a, l, c, rfl⟩ := h; rfl)
    · obtain ⟨a, l, c, rfl, _⟩ := h; rfl
structure Prm.Le (N N' : Prm) : Prop where
  s : N'.s = N.s
  n : N'.n = N.n
  p : N.p ≤ N'.p
  o : N.o ≤ N'.o
  h : N.h ≤ N'.h
  f : N.f ≤ N'.f
theorem Or.le {N N' : Prm} {r : Rb} (L : N.Le N') (κ : Ka RK) (k : RK) (j : Nat) (v : Value) (h : Or N r κ k j v) : Or N' r κ k j v := by
  obtain ⟨hs, hn, hp, ho, hh, hf⟩ := L
  have h1 : ∀ {v}, isSite N v → isSite N' v := by rintro _ ⟨x, rfl, a, b⟩; exact ⟨x, rfl, a, by omega⟩
  have h2 : ∀ {v}, isIdx N v → isIdx N' v := by rintro _ ⟨x, rfl, a, b⟩; exact ⟨x, rfl, a, by omega⟩
  cases k <;> simp only [Or] at h ⊢ <;> try exact h
  · split at h <;> first | exact h.elim | (rw [hs]; exact h) | (rw [hn]; exact h) | exact h.le (Kle.refl κ) hp | exact h.le (Kle.refl κ) ho | exact h.le (Kle.refl κ) hf | exact h
  · split at h <;> first | exact h.elim | exact h1 h | exact h.le (Kle.refl κ) hh | exact h
  · exact h2 h
  · split at h <;> first | exact h.elim | exact h1 h | exact h2 h
  · exact h2 h
  · split at h <;> first | exact h.elim | exact h1 h | exact h2 h | exact h
structure TabR (κ : Ka RK) (N : Prm) (kt k : RK) (g : Nat) (w : World) : Prop where
  in_ : κ g = some (kt, N.s, N.s)
  rows : ∃ W : List SL, W.length = N.s ∧ Blk w g (W.map slv).toArray (Kr.ty kt) ∧ ∀ x ∈ W, Sl Kr κ k x ∧ N.n ≤ x.2.1 ∧ x.2.1 ≤ N.n + 1
structure RR (κ : Ka RK) (N : Prm) (r : Rb) (w : World) : Prop where
  ty : Ty Kr (Or N r) κ w
  st : κ r.b = some (.st, 12, 12)
  tw : TabR κ N .tabI .ints r.gw w
  ta : TabR κ N .tabB .bools r.ga w
  tm : TabR κ N .tabB .bools r.gm w
  tl : TabR κ N .tabB .bools r.gl w
  ne : r.ga ≠ r.gm ∧ r.ga ≠ r.gl ∧ r.gm ≠ r.gl
  ls : 1 ≤ N.s ∧ N.s ≤ 5
  ln : N.n ≤ 1000 ∧ N.p ≤ 1000 ∧ N.o ≤ 1000 ∧ N.h ≤ 1000 ∧ N.f ≤ 10000000
def NT (k : RK) : Prop := k ≠ .tabI ∧ k ≠ .tabB
abbrev PkR (κ κ' : Ka RK) (w w' : World) : Prop := Pk NT κ κ' w w'
section
variable {κ κ' : Ka RK} {N N' : Prm} {r : Rb} {w w' : World}
theorem TabR.step {kt k : RK} {g : Nat} (h : TabR κ N kt k g w) (p : PkR κ κ' w w') (hkt : ¬ NT kt) (ht : Ty Kr (Or N' r) κ' w') (hs : N'.s = N.s) (hn : N'.n = N.n) : TabR κ' N' kt k g w' := by
  obtain ⟨h1, W, h2, h3, h4⟩ := h
  obtain ⟨u', hu, h1'⟩ := p.le _ _ _ _ h1
  obtain ⟨cs, hb, e1, e2, _⟩ := ht _ _ _ _ h1'
  have : u' = N.s := by omega
  subst this
  exact ⟨by rw [hs]; exact h1', W, by rw [hs]; exact h2, (p.keep _ _ _ _ h1 hkt).trans h3, fun x hx => by rw [hn]; exact ⟨(h4 x hx).1.le p.le, (h4 x hx).2⟩⟩
theorem RR.step (h : RR κ N r w) (p : PkR κ κ' w w') (ht : Ty Kr (Or N' r) κ' w') (hs : N'.s = N.s) (hn : N'.n = N.n) (hl : N'.p ≤ 1000 ∧ N'.o ≤ 1000 ∧ N'.h ≤ 1000 ∧ N'.f ≤ 10000000) : RR κ' N' r w' where
  ty := ht
  st := by
    obtain ⟨u', hu, e⟩ := p.le _ _ _ _ h.st
    obtain ⟨cs, _, e1, e2, _⟩ := ht _ _ _ _ e
    have : u' = 12 := by omega
    subst this; exact e
  tw := h.tw.step p (fun c => c.1 rfl) ht hs hn
  ta := h.ta.step p (fun c => c.2 rfl) ht hs hn
  tm := h.tm.step p (fun c => c.2 rfl) ht hs hn
  tl := h.tl.step p (fun c => c.2 rfl) ht hs hn
  ne := h.ne
  ls := by rw [hs]; exact h.ls
  ln := ⟨by rw [hn]; exact h.ln.1, hl⟩
theorem RR.same (h : RR κ N r w) (p : PkR κ κ' w w') (ht : Ty Kr (Or N r) κ' w') : RR κ' N r w' := h.step p ht rfl rfl h.ln.2
theorem RR.ext (h : RR κ N r w) (x : Ext w w') : RR κ N r w' := h.same (Pk.ofExt _ h.ty x) (h.ty.ext x)
theorem RR.pkExt (h : RR κ N r w) (x : Ext w w') : PkR κ κ w w' := Pk.ofExt _ h.ty x
theorem RR.fresh (h : RR κ N r w) {b : Nat} (hb : w.heap.size ≤ b) : κ b = none := h.ty.none_top hb
theorem TabR.frame {kt k : RK} {g : Nat} (h : TabR κ N kt k g w) (x : ∀ b, κ b ≠ none → w'.heap[b]? = w.heap[b]?) : TabR κ N kt k g w' := by
  obtain ⟨h1, W, h2, h3, h4⟩ := h
  exact ⟨h1, W, h2, (x g (by rw [h1]; simp)).trans h3, h4⟩
theorem RR.frame (h : RR κ N r w) (x : ∀ b, κ b ≠ none → w'.heap[b]? = w.heap[b]?) : RR κ N r w' :=
  ⟨h.ty.frame x, h.st, h.tw.frame x, h.ta.frame x, h.tm.frame x, h.tl.frame x, h.ne, h.ls, h.ln⟩
theorem RR.but (h : RR κ N r w) {b : Nat} (x : But b w w') (hb : κ b = none) : RR κ N r w' := h.frame fun b' h' => x.block b' fun e => h' (e ▸ hb)
theorem RR.cell (h : RR κ N r w) {i : Nat} (hi : i < 12) : ∃ v, w.cell? ((⟨r.b, 0, none⟩ : Addr).add i) = some v ∧ Or N r κ .st i v := by
  obtain ⟨v, h1, h2⟩ := h.ty.cell h.st hi
  rw [show i % Kr.sz .st = i from Nat.mod_eq_of_lt hi] at h2
  exact ⟨v, by rw [add_mk, Nat.zero_add]; exact h1, h2⟩
theorem RR.c0 (h : RR κ N r w) : w.cell? (⟨r.b, 0, none⟩ : Addr) = some (.int .i64 N.s) := by
  obtain ⟨v, h1, h2⟩ := h.cell (i := 0) (by omega); rw [show v = _ from h2] at h1; exact h1
theorem RR.c3 (h : RR κ N r w) : ∃ a c, w.cell? ((⟨r.b, 0, none⟩ : Addr).add 3) = some (.slice a N.s c) ∧ Sl Kr κ .clk (a, N.s, c) := by
  obtain ⟨v, h1, a, c, rfl, h2⟩ := h.cell (i := 3) (by omega); exact ⟨a, c, h1, h2⟩
theorem RR.c4 (h : RR κ N r w) : ∃ a c, w.cell? ((⟨r.b, 0, none⟩ : Addr).add 4) = some (.slice a N.n c) ∧ Sl Kr κ .ths (a, N.n, c) := by
  obtain ⟨v, h1, a, c, rfl, h2⟩ := h.cell (i := 4) (by omega); exact ⟨a, c, h1, h2⟩
theorem RR.c5 (h : RR κ N r w) : w.cell? ((⟨r.b, 0, none⟩ : Addr).add 5) = some (.slice (some ⟨r.gw, 0, none⟩) N.s N.s) := by
  obtain ⟨v, h1, h2⟩ := h.cell (i := 5) (by omega); rw [show v = _ from h2] at h1; exact h1
theorem RR.c6 (h : RR κ N r w) : w.cell? ((⟨r.b, 0, none⟩ : Addr).add 6) = some (.slice (some ⟨r.ga, 0, none⟩) N.s N.s) := by
  obtain ⟨v, h1, h2⟩ := h.cell (i := 6) (by omega); rw [show v = _ from h2] at h1; exact h1
theorem RR.c7 (h : RR κ N r w) : w.cell? ((⟨r.b, 0, none⟩ : Addr).add 7) = some (.slice (some ⟨r.gm, 0, none⟩) N.s N.s) := by
  obtain ⟨v, h1, h2⟩ := h.cell (i := 7) (by omega); rw [show v = _ from h2] at h1; exact h1
theorem RR.c8 (h : RR κ N r w) : w.cell? ((⟨r.b, 0, none⟩ : Addr).add 8) = some (.slice (some ⟨r.gl, 0, none⟩) N.s N.s) := by
  obtain ⟨v, h1, h2⟩ := h.cell (i := 8) (by omega); rw [show v = _ from h2] at h1; exact h1
theorem RR.c9 (h : RR κ N r w) : ∃ a l c, w.cell? ((⟨r.b, 0, none⟩ : Addr).add 9) = some (.slice a l c) ∧ Sl Kr κ .pas (a, l, c) ∧ l ≤ N.p := by
  obtain ⟨v, h1, a, l, c, rfl, h2⟩ := h.cell (i := 9) (by omega); exact ⟨a, l, c, h1, h2⟩
theorem RR.c10 (h : RR κ N r w) : ∃ a l c, w.cell? ((⟨r.b, 0, none⟩ : Addr).add 10) = some (.slice a l c) ∧ Sl Kr κ .ord (a, l, c) ∧ l ≤ N.o := by
  obtain ⟨v, h1, a, l, c, rfl, h2⟩ := h.cell (i := 10) (by omega); exact ⟨a, l, c, h1, h2⟩
theorem RR.c11 (h : RR κ N r w) : ∃ a l c, w.cell? ((⟨r.b, 0, none⟩ : Addr).add 11) = some (.slice a l c) ∧ Sl Kr κ .fly (a, l, c) ∧ l ≤ N.f := by
  obtain ⟨v, h1, a, l, c, rfl, h2⟩ := h.cell (i := 11) (by omega); exact ⟨a, l, c, h1, h2⟩
theorem RR.setSt (h : RR κ N r w) {i : Nat} (hi : i < 12) {v : Value} (hv : Or N r κ .st i v) {F : World → Prop} (f : ∀ w', RR κ N r w' → PkR κ κ w w' → F w') : SetK w ((⟨r.b, 0, none⟩ : Addr).add i) v F := by
  rw [add_mk, Nat.zero_add]
  refine h.ty.set h.st hi (by rw [show i % Kr.sz .st = i from Nat.mod_eq_of_lt hi]; exact hv) fun w' ht bu => ?_
  have p : PkR κ κ w w' := Pk.butK (Pk.refl _ _ _) bu h.st (by simp [NT])
  exact f w' (h.same p ht) p
theorem TabR.at_ {kt k : RK} {g : Nat} (h : TabR κ N kt k g w) {x : Int} (h0 : 0 ≤ x) (h1 : x < N.s) : ∃ a l c, w.cell? ((⟨g, 0, none⟩ : Addr).add (x.toNat * 1)) = some (.slice a l c) ∧ Sl Kr κ k (a, l, c) ∧ N.n ≤ l ∧ l ≤ N.n + 1 := by
  obtain ⟨_, W, h2, h3, h4⟩ := h
  have hx : x.toNat < W.length := by omega
  refine ⟨(W[x.toNat]).1, (W[x.toNat]).2.1, (W[x.toNat]).2.2, ?_, h4 _ (List.getElem_mem hx)⟩
  rw [add_mk, Nat.zero_add, Nat.mul_one, h3.cell, List.getElem?_toArray, List.getElem?_map, List.getElem?_eq_getElem hx]; rfl
def ThP (κ : Ka RK) (o : Option Addr) : Prop := ∃ g q m u, o = some ⟨g, q * 7, none⟩ ∧ κ g = some (.ths, m, u) ∧ q * 7 + 7 ≤ u
theorem ThP.le {o : Option Addr} (h : ThP κ o) (l : Kle κ κ') : ThP κ' o := by
  obtain ⟨g, q, m, u, h1, h2, h3⟩ := h
  obtain ⟨u', hu, h2'⟩ := l _ _ _ _ h2
  exact ⟨g, q, m, u', h1, h2', by omega⟩
theorem ThP.cell {g q m u : Nat} (hk : κ g = some (.ths, m, u)) (hu : q * 7 + 7 ≤ u) (h : RR κ N r w) {j : Nat} (hj : j < 7) : ∃ v, w.cell? ⟨g, q * 7 + j, none⟩ = some v ∧ Or N r κ .ths j v := by
  obtain ⟨v, h1, h2⟩ := h.ty.cell hk (i := q * 7 + j) (by omega)
  rw [show (q * 7 + j) % Kr.sz .ths = j by show (q * 7 + j) % 7 = j; omega] at h2
  exact ⟨v, h1, h2⟩
theorem ThP.set {g q m u : Nat} (hk : κ g = some (.ths, m, u)) (hu : q * 7 + 7 ≤ u) (h : RR κ N r w) {j : Nat} (hj : j < 7) {v : Value} (hv : Or N r κ .ths j v) {F : World → Prop} (f : ∀ w', RR κ N r w' → PkR κ κ w w' → F w') : SetK w ⟨g, q * 7 + j, none⟩ v F := by
  refine h.ty.set hk (i := q * 7 + j) (by omega) (by rw [show (q * 7 + j) % Kr.sz .ths = j by show (q * 7 + j) % 7 = j; omega]; exact hv) fun w' ht bu => ?_
  have p : PkR κ κ w w' := Pk.butK (Pk.refl _ _ _) bu hk (by simp [NT])
  exact f w' (h.same p ht) p
theorem RR.setAt (h : RR κ N r w) {k : RK} {g n u i : Nat} (hk : κ g = some (k, n, u)) (hi : i < u) (hX : NT k) {v : Value} (hv : Or N r κ k (i % Kr.sz k) v) {F : World → Prop} (f : ∀ w', RR κ N r w' → PkR κ κ w w' → But g w w' → F w') : SetK w ⟨g, i, none⟩ v F := by
  refine h.ty.set hk hi hv fun w' ht bu => ?_
  have p : PkR κ κ w w' := Pk.butK (Pk.refl _ _ _) bu hk hX
  exact f w' (h.same p ht) p bu
theorem RR.el (h : RR κ N r w) {k : RK} {a : Option Addr} {l c : Nat} (hs : Sl Kr κ k (a, l, c)) (hk : Kr.sz k = 1) {x : Int} (h0 : 0 ≤ x) (h1 : x < l) : ∃ g o n u v, a = some ⟨g, o, none⟩ ∧ κ g = some (k, n, u) ∧ o + x.toNat < u ∧ w.cell? ((⟨g, o, none⟩ : Addr).add (x.toNat * 1)) = some v ∧ Or N r κ k 0 v := by
  obtain ⟨g, o, n, u, e, h2, h3⟩ := hs.at_ h.ty (i := x.toNat) (by show x.toNat < l; omega)
  obtain ⟨p1, p2, v, p3, p4⟩ := h3 0 (by omega)
  rw [hk, Nat.mul_one, Nat.add_zero] at p1 p3
  exact ⟨g, o, n, u, v, e, h2, p1, by rw [add_mk, Nat.mul_one]; exact p3, p4⟩
theorem RR.els (h : RR κ N r w) {k : RK} {a : Option Addr} {l c : Nat} (hs : Sl Kr κ k (a, l, c)) {x : Int} (h0 : 0 ≤ x) (h1 : x < l) : ∃ g o n u, a = some ⟨g, o, none⟩ ∧ κ g = some (k, n, u) ∧
    ∀ j, j < Kr.sz k → o + x.toNat * Kr.sz k + j < u ∧ (o + x.toNat * Kr.sz k + j) % Kr.sz k = j ∧ ∃ v, w.cell? ⟨g, o + x.toNat * Kr.sz k + j, none⟩ = some v ∧ Or N r κ k j v :=
  hs.at_ h.ty (i := x.toNat) (by show x.toNat < l; omega)
end
end Go.Proofs.YtgggbmikmmljcaaGreat

namespace Go.Proofs.YtgggbmikmmljcaaGreat
open Go Go.V Go.Proofs
open Go.RowKit (Below)
/-! (*manystrand/manystrandref27.Count).site -/
def N58 (o1 : Option Addr) (x2 : Int) (K : Bool → World → Prop) (w : World) : Prop :=
 BoolK (decide ((x2 : Int) ≥ 0))
 (AddrK o1 fun b3 =>
 ∃ (x4 : Int), w.cell? b3 = some (.int .i64 x4) ∧
 (K (decide ((x2 : Int) < x4)) w))
 (K false w)
def ann58 : Ann := (.two .nil (.two .nil .nil))
noncomputable def code58 : Code := match Tryz.f58.body with | some c => c | none => .skip
theorem wp58 (o1 : Option Addr) (x2 : Int) (K : Bool → World → Prop) (w : World) : WP Tryz.prog tab code58 ann58 (fnQ tab Tryz.f58.results.toList [(.one .bool)] K) (argE 0 [(.pointer o1), (.int .i64 x2)]) w = N58 o1 x2 K w := by kernel_rfl
theorem calls58 (o1 : Option Addr) (x2 : Int) (K : Bool → World → Prop) (w : World) (h : N58 o1 x2 K w) : Calls Tryz.prog 58 #[(.pointer o1), (.int .i64 x2)] w fun en w' => ∃ (p5 : Bool), en = .returned (.bool p5) ∧ K p5 w' :=
 have e : (fun en w' => ExShs [(.one .bool)] fun vs => en = .returned (tupled vs) ∧ ap [(.one .bool)] K vs fun p => p w') = (fun (en : Ending) (w' : World) => ∃ (p5 : Bool), en = .returned (.bool p5) ∧ K p5 w') := by kernel_rfl
 e ▸ fn_sound tabOk mixed Tryz.func58 (by kernel_rfl : Tryz.f58.body = some code58) ann58 [(.pointer o1), (.int .i64 x2)] [(.one .bool)] K w (by kernel_rfl) ((wp58 o1 x2 K w).symm ▸ h)
end Go.Proofs.YtgggbmikmmljcaaGreat

namespace Go.Proofs.YtgggbmikmmljcaaGreat
open Go Go.V Go.Proofs
open Go.RowKit (Below)
/-! (*manystrand/manystrandref27.Count).thing -/
def N59 (o1 : Option Addr) (x2 : Int) (K : Option Addr → World → Prop) (w : World) : Prop :=
 BoolK (decide ((x2 : Int) < 1))
 (K none w)
 (AddrK o1 fun b3 =>
 ∃ (a4 : Option Addr) (l4 : Nat) (c4 : Nat), w.cell? (b3.add 4) = some (.slice a4 l4 c4) ∧
 (BoolK (decide ((x2 : Int) > (l4 : Nat)))
 (K none w)
 (AddrK o1 fun b5 =>
 ∃ (a6 : Option Addr) (l6 : Nat) (c6 : Nat), w.cell? (b5.add 4) = some (.slice a6 l6 c6) ∧
 ((0 ≤ (IntKind.wrap .i64 (x2 - 1) : Int) ∧ (IntKind.wrap .i64 (x2 - 1) : Int) < (l6 : Nat)) ∧
 AddrK a6 fun b7 =>
 K (some (b7.add ((IntKind.wrap .i64 (x2 - 1) : Int).toNat * 7))) w))))
def ann59 : Ann := (.two .nil (.two (.two .nil (.two (.two .nil .nil) .nil)) (.two .nil .nil)))
noncomputable def code59 : Code := match Tryz.f59.body with | some c => c | none => .skip
theorem wp59 (o1 : Option Addr) (x2 : Int) (K : Option Addr → World → Prop) (w : World) : WP Tryz.prog tab code59 ann59 (fnQ tab Tryz.f59.results.toList [(.one .ptr)] K) (argE 0 [(.pointer o1), (.int .i64 x2)]) w = N59 o1 x2 K w := by kernel_rfl
theorem calls59 (o1 : Option Addr) (x2 : Int) (K : Option Addr → World → Prop) (w : World) (h : N59 o1 x2 K w) : Calls Tryz.prog 59 #[(.pointer o1), (.int .i64 x2)] w fun en w' => ∃ (o8 : Option Addr), en = .returned (.pointer o8) ∧ K o8 w' :=
 have e : (fun en w' => ExShs [(.one .ptr)] fun vs => en = .returned (tupled vs) ∧ ap [(.one .ptr)] K vs fun p => p w') = (fun (en : Ending) (w' : World) => ∃ (o8 : Option Addr), en = .returned (.pointer o8) ∧ K o8 w') := by kernel_rfl
 e ▸ fn_sound tabOk mixed Tryz.func59 (by kernel_rfl : Tryz.f59.body = some code59) ann59 [(.pointer o1), (.int .i64 x2)] [(.one .ptr)] K w (by kernel_rfl) ((wp59 o1 x2 K w).symm ▸ h)
end Go.Proofs.YtgggbmikmmljcaaGreat

namespace Go.Proofs.YtgggbmikmmljcaaGreat
open Go Go.V Go.Proofs
open Go.RowKit (Below)
/-! (*manystrand/manystrandref27.Count).send -/
def N60 (o1 : Option Addr) (x2 : Int) (x3 : Int) (s4 : ByteArray) (x5 : Int) (x6 : Int) (K : World → Prop) (w : World) : Prop :=
 AddrK o1 fun b7 =>
 ∃ (a8 : Option Addr) (l8 : Nat) (c8 : Nat), w.cell? (b7.add 11) = some (.slice a8 l8 c8) ∧
 (AllocK w (#[(.int .i64 x2), (.int .i64 x3), (.string s4), (.int .i64 x5), (.int .i64 x6), (.int .i64 0), (.int .i64 0), (.slice none 0 0)]) 40 fun b9 w10 =>
 ∃ (a11 : Option Addr), ∃ (l11 : Nat), ∃ (c11 : Nat), ∃ (w12 : World), Sem.run Tryz.prog (Builtin.append_ #[34, 34] 34 #[(.slice a8 l8 c8), (.slice (some b9) 1 1)]) w10 = .ok (.slice a11 l11 c11) w12 ∧
 (AddrK o1 fun b13 =>
 SetK w12 (b13.add 11) (.slice a11 l11 c11) fun w14 =>
 K w14))
def ann60 : Ann := .nil
noncomputable def code60 : Code := match Tryz.f60.body with | some c => c | none => .skip
theorem wp60 (o1 : Option Addr) (x2 : Int) (x3 : Int) (s4 : ByteArray) (x5 : Int) (x6 : Int) (K : World → Prop) (w : World) : WP Tryz.prog tab code60 ann60 (fnQ tab Tryz.f60.results.toList [] K) (argE 0 [(.pointer o1), (.int .i64 x2), (.int .i64 x3), (.string s4), (.int .i64 x5), (.int .i64 x6)]) w = N60 o1 x2 x3 s4 x5 x6 K w := by kernel_rfl
theorem calls60 (o1 : Option Addr) (x2 : Int) (x3 : Int) (s4 : ByteArray) (x5 : Int) (x6 : Int) (K : World → Prop) (w : World) (h : N60 o1 x2 x3 s4 x5 x6 K w) : Calls Tryz.prog 60 #[(.pointer o1), (.int .i64 x2), (.int .i64 x3), (.string s4), (.int .i64 x5), (.int .i64 x6)] w fun en w' => en = .returned (.tuple #[]) ∧ K w' :=
 have e : (fun en w' => ExShs [] fun vs => en = .returned (tupled vs) ∧ ap [] K vs fun p => p w') = (fun (en : Ending) (w' : World) => en = .returned (.tuple #[]) ∧ K w') := by kernel_rfl
 e ▸ fn_sound tabOk mixed Tryz.func60 (by kernel_rfl : Tryz.f60.body = some code60) ann60 [(.pointer o1), (.int .i64 x2), (.int .i64 x3), (.string s4), (.int .i64 x5), (.int .i64 x6)] [] K w (by kernel_rfl) ((wp60 o1 x2 x3 s4 x5 x6 K w).symm ▸ h)
end Go.Proofs.YtgggbmikmmljcaaGreat

namespace Go.Proofs.YtgggbmikmmljcaaGreat
open Go Go.V Go.Proofs
open Go.RowKit (Below)
/-! manystrand/manystrandref27.has -/
def N69 (a1 : Option Addr) (l1 : Nat) (_c1 : Nat) (x2 : Int) (K : Bool → World → Prop) (w : World) : Prop :=
 ∃ (I3 : Int → World → Prop) (μ4 : Int → World → Nat),
 (I3 0 w ∧ True) ∧
 ∀ (w5 : World) (x6 : Int), I3 x6 w5 →
 BoolK (decide ((x6 : Int) < (l1 : Nat)))
 ((0 ≤ (x6 : Int) ∧ (x6 : Int) < (l1 : Nat)) ∧
 AddrK a1 fun b7 =>
 ∃ (x8 : Int), w5.cell? (b7.add ((x6 : Int).toNat * 1)) = some (.int .i64 x8) ∧
 (BoolK ((x8 : Int) == x2)
 (K true w5)
 (I3 (IntKind.wrap .i64 (x6 + 1)) w5 ∧ μ4 (IntKind.wrap .i64 (x6 + 1)) w5 < μ4 x6 w5)))
 (K false w5)
def ann69 : Ann := (.two .nil (.two (.two .nil (.one (.loop [(5, (.one (.int .i64)))] [0, 1] (.two (.two .nil (.two .nil .nil)) (.two (.one (.two .nil (.two (.two .nil .nil) .nil))) .nil))))) (.two .nil .nil)))
noncomputable def code69 : Code := match Tryz.f69.body with | some c => c | none => .skip
theorem wp69 (a1 : Option Addr) (l1 : Nat) (c1 : Nat) (x2 : Int) (K : Bool → World → Prop) (w : World) : WP Tryz.prog tab code69 ann69 (fnQ tab Tryz.f69.results.toList [(.one .bool)] K) (argE 0 [(.slice a1 l1 c1), (.int .i64 x2)]) w = N69 a1 l1 c1 x2 K w := by kernel_rfl
theorem calls69 (a1 : Option Addr) (l1 : Nat) (c1 : Nat) (x2 : Int) (K : Bool → World → Prop) (w : World) (h : N69 a1 l1 c1 x2 K w) : Calls Tryz.prog 69 #[(.slice a1 l1 c1), (.int .i64 x2)] w fun en w' => ∃ (p9 : Bool), en = .returned (.bool p9) ∧ K p9 w' :=
 have e : (fun en w' => ExShs [(.one .bool)] fun vs => en = .returned (tupled vs) ∧ ap [(.one .bool)] K vs fun p => p w') = (fun (en : Ending) (w' : World) => ∃ (p9 : Bool), en = .returned (.bool p9) ∧ K p9 w') := by kernel_rfl
 e ▸ fn_sound tabOk mixed Tryz.func69 (by kernel_rfl : Tryz.f69.body = some code69) ann69 [(.slice a1 l1 c1), (.int .i64 x2)] [(.one .bool)] K w (by kernel_rfl) ((wp69 a1 l1 c1 x2 K w).symm ▸ h)
end Go.Proofs.YtgggbmikmmljcaaGreat

namespace Go.Proofs.YtgggbmikmmljcaaGreat
open Go Go.V Go.Proofs
open Go.RowKit (Below)
/-! (*manystrand/manystrandref27.Count).held -/
def N67 (o1 : Option Addr) (x2 : Int) (x3 : Int) (K : Bool → World → Prop) (w : World) : Prop :=
 ∃ (I4 : Int → World → Prop) (μ5 : Int → World → Nat),
 (I4 0 w ∧ True) ∧
 ∀ (w6 : World) (x7 : Int), I4 x7 w6 →
 AddrK o1 fun b8 =>
 ∃ (a9 : Option Addr) (l9 : Nat) (c9 : Nat), w6.cell? (b8.add 4) = some (.slice a9 l9 c9) ∧
 (BoolK (decide ((x7 : Int) < (l9 : Nat)))
 (AddrK o1 fun b10 =>
 ∃ (a11 : Option Addr) (l11 : Nat) (c11 : Nat), w6.cell? (b10.add 4) = some (.slice a11 l11 c11) ∧
 ((0 ≤ (x7 : Int) ∧ (x7 : Int) < (l11 : Nat)) ∧
 AddrK a11 fun b12 =>
 ∃ (x13 : Int), w6.cell? (b12.add ((x7 : Int).toNat * 7)) = some (.int .i64 x13) ∧
 (BoolK ((x13 : Int) == x2)
 (AddrK o1 fun b14 =>
 ∃ (a15 : Option Addr) (l15 : Nat) (c15 : Nat), w6.cell? (b14.add 4) = some (.slice a15 l15 c15) ∧
 ((0 ≤ (x7 : Int) ∧ (x7 : Int) < (l15 : Nat)) ∧
 AddrK a15 fun b16 =>
 ∃ (p17 : Bool), w6.cell? ((b16.add ((x7 : Int).toNat * 7)).add 5) = some (.bool p17) ∧
 (BoolK (!p17)
 (AddrK o1 fun b18 =>
 ∃ (a19 : Option Addr) (l19 : Nat) (c19 : Nat), w6.cell? (b18.add 4) = some (.slice a19 l19 c19) ∧
 ((0 ≤ (x7 : Int) ∧ (x7 : Int) < (l19 : Nat)) ∧
 AddrK a19 fun b20 =>
 ∃ (a21 : Option Addr) (l21 : Nat) (c21 : Nat), w6.cell? ((b20.add ((x7 : Int).toNat * 7)).add 6) = some (.slice a21 l21 c21) ∧
 (Calls Tryz.prog 69 #[(.slice a21 l21 c21), (.int .i64 x3)] w6 fun e24 w23 =>
 ∃ (p22 : Bool), e24 = .returned (.bool p22) ∧
 (BoolK p22
 (K true w23)
 (I4 (IntKind.wrap .i64 (x7 + 1)) w23 ∧ μ5 (IntKind.wrap .i64 (x7 + 1)) w23 < μ5 x7 w6)))))
 (I4 (IntKind.wrap .i64 (x7 + 1)) w6 ∧ μ5 (IntKind.wrap .i64 (x7 + 1)) w6 < μ5 x7 w6))))
 (I4 (IntKind.wrap .i64 (x7 + 1)) w6 ∧ μ5 (IntKind.wrap .i64 (x7 + 1)) w6 < μ5 x7 w6))))
 (K false w6))
def ann67 : Ann := (.two .nil (.two (.two .nil (.one (.loop [(7, (.one (.int .i64)))] [0, 1, 2] (.two (.two .nil (.two .nil .nil)) (.two (.one (.two .nil (.two (.two .nil .nil) .nil))) .nil))))) (.two .nil .nil)))
noncomputable def code67 : Code := match Tryz.f67.body with | some c => c | none => .skip
theorem wp67 (o1 : Option Addr) (x2 : Int) (x3 : Int) (K : Bool → World → Prop) (w : World) : WP Tryz.prog tab code67 ann67 (fnQ tab Tryz.f67.results.toList [(.one .bool)] K) (argE 0 [(.pointer o1), (.int .i64 x2), (.int .i64 x3)]) w = N67 o1 x2 x3 K w := by kernel_rfl
theorem calls67 (o1 : Option Addr) (x2 : Int) (x3 : Int) (K : Bool → World → Prop) (w : World) (h : N67 o1 x2 x3 K w) : Calls Tryz.prog 67 #[(.pointer o1), (.int .i64 x2), (.int .i64 x3)] w fun en w' => ∃ (p25 : Bool), en = .returned (.bool p25) ∧ K p25 w' :=
 have e : (fun en w' => ExShs [(.one .bool)] fun vs => en = .returned (tupled vs) ∧ ap [(.one .bool)] K vs fun p => p w') = (fun (en : Ending) (w' : World) => ∃ (p25 : Bool), en = .returned (.bool p25) ∧ K p25 w') := by kernel_rfl
 e ▸ fn_sound tabOk mixed Tryz.func67 (by kernel_rfl : Tryz.f67.body = some code67) ann67 [(.pointer o1), (.int .i64 x2), (.int .i64 x3)] [(.one .bool)] K w (by kernel_rfl) ((wp67 o1 x2 x3 K w).symm ▸ h)
end Go.Proofs.YtgggbmikmmljcaaGreat

namespace Go.Proofs.YtgggbmikmmljcaaGreat
open Go Go.V Go.Proofs
open Go.RowKit (Below)
/-! (*manystrand/manystrandref27.Count).waits -/
def N65 (o1 : Option Addr) (x2 : Int) (x3 : Int) (K : Bool → World → Prop) (w : World) : Prop :=
 ∃ (I4 : Int → World → Prop) (μ5 : Int → World → Nat),
 (I4 0 w ∧ True) ∧
 ∀ (w6 : World) (x7 : Int), I4 x7 w6 →
 AddrK o1 fun b8 =>
 ∃ (a9 : Option Addr) (l9 : Nat) (c9 : Nat), w6.cell? (b8.add 9) = some (.slice a9 l9 c9) ∧
 (BoolK (decide ((x7 : Int) < (l9 : Nat)))
 (AddrK o1 fun b10 =>
 ∃ (a11 : Option Addr) (l11 : Nat) (c11 : Nat), w6.cell? (b10.add 9) = some (.slice a11 l11 c11) ∧
 ((0 ≤ (x7 : Int) ∧ (x7 : Int) < (l11 : Nat)) ∧
 AddrK a11 fun b12 =>
 ∃ (x13 : Int), w6.cell? (b12.add ((x7 : Int).toNat * 3)) = some (.int .i64 x13) ∧
 (BoolK ((x13 : Int) == x2)
 (AddrK o1 fun b14 =>
 ∃ (a15 : Option Addr) (l15 : Nat) (c15 : Nat), w6.cell? (b14.add 9) = some (.slice a15 l15 c15) ∧
 ((0 ≤ (x7 : Int) ∧ (x7 : Int) < (l15 : Nat)) ∧
 AddrK a15 fun b16 =>
 ∃ (x17 : Int), w6.cell? ((b16.add ((x7 : Int).toNat * 3)).add 2) = some (.int .i64 x17) ∧
 (BoolK ((x17 : Int) == x3)
 (K true w6)
 (I4 (IntKind.wrap .i64 (x7 + 1)) w6 ∧ μ5 (IntKind.wrap .i64 (x7 + 1)) w6 < μ5 x7 w6))))
 (I4 (IntKind.wrap .i64 (x7 + 1)) w6 ∧ μ5 (IntKind.wrap .i64 (x7 + 1)) w6 < μ5 x7 w6))))
 (K false w6))
def ann65 : Ann := (.two .nil (.two (.two .nil (.one (.loop [(7, (.one (.int .i64)))] [0, 1, 2] (.two (.two .nil (.two .nil .nil)) (.two (.one (.two .nil (.two (.two .nil .nil) .nil))) .nil))))) (.two .nil .nil)))
noncomputable def code65 : Code := match Tryz.f65.body with | some c => c | none => .skip
theorem wp65 (o1 : Option Addr) (x2 : Int) (x3 : Int) (K : Bool → World → Prop) (w : World) : WP Tryz.prog tab code65 ann65 (fnQ tab Tryz.f65.results.toList [(.one .bool)] K) (argE 0 [(.pointer o1), (.int .i64 x2), (.int .i64 x3)]) w = N65 o1 x2 x3 K w := by kernel_rfl
theorem calls65 (o1 : Option Addr) (x2 : Int) (x3 : Int) (K : Bool → World → Prop) (w : World) (h : N65 o1 x2 x3 K w) : Calls Tryz.prog 65 #[(.pointer o1), (.int .i64 x2), (.int .i64 x3)] w fun en w' => ∃ (p18 : Bool), en = .returned (.bool p18) ∧ K p18 w' :=
 have e : (fun en w' => ExShs [(.one .bool)] fun vs => en = .returned (tupled vs) ∧ ap [(.one .bool)] K vs fun p => p w') = (fun (en : Ending) (w' : World) => ∃ (p18 : Bool), en = .returned (.bool p18) ∧ K p18 w') := by kernel_rfl
 e ▸ fn_sound tabOk mixed Tryz.func65 (by kernel_rfl : Tryz.f65.body = some code65) ann65 [(.pointer o1), (.int .i64 x2), (.int .i64 x3)] [(.one .bool)] K w (by kernel_rfl) ((wp65 o1 x2 x3 K w).symm ▸ h)
end Go.Proofs.YtgggbmikmmljcaaGreat

namespace Go.Proofs.YtgggbmikmmljcaaGreat
open Go Go.V Go.Proofs
open Go.RowKit (Below)
/-! (*manystrand/manystrandref27.Count).Weight -/
def N79 (o1 : Option Addr) (x2 : Int) (x3 : Int) (K : Int → World → Prop) (w : World) : Prop :=
 Calls Tryz.prog 58 #[(.pointer o1), (.int .i64 x2)] w fun e6 w5 =>
 ∃ (p4 : Bool), e6 = .returned (.bool p4) ∧
 (BoolK (!p4)
 (K 0 w5)
 (Calls Tryz.prog 59 #[(.pointer o1), (.int .i64 x3)] w5 fun e9 w8 =>
 ∃ (o7 : Option Addr), e9 = .returned (.pointer o7) ∧
 (BoolK o7.isNone
 (K 0 w8)
 (AddrK o1 fun b10 =>
 ∃ (a11 : Option Addr) (l11 : Nat) (c11 : Nat), w8.cell? (b10.add 5) = some (.slice a11 l11 c11) ∧
 ((0 ≤ (x2 : Int) ∧ (x2 : Int) < (l11 : Nat)) ∧
 AddrK a11 fun b12 =>
 ∃ (a13 : Option Addr) (l13 : Nat) (c13 : Nat), w8.cell? (b12.add ((x2 : Int).toNat * 1)) = some (.slice a13 l13 c13) ∧
 ((0 ≤ (IntKind.wrap .i64 (x3 - 1) : Int) ∧ (IntKind.wrap .i64 (x3 - 1) : Int) < (l13 : Nat)) ∧
 AddrK a13 fun b14 =>
 ∃ (x15 : Int), w8.cell? (b14.add ((IntKind.wrap .i64 (x3 - 1) : Int).toNat * 1)) = some (.int .i64 x15) ∧
 (K x15 w8)))))))
def ann79 : Ann := (.two .nil (.two (.two .nil (.two (.two .nil .nil) .nil)) (.two .nil .nil)))
noncomputable def code79 : Code := match Tryz.f79.body with | some c => c | none => .skip
theorem wp79 (o1 : Option Addr) (x2 : Int) (x3 : Int) (K : Int → World → Prop) (w : World) : WP Tryz.prog tab code79 ann79 (fnQ tab Tryz.f79.results.toList [(.one (.int .i64))] K) (argE 0 [(.pointer o1), (.int .i64 x2), (.int .i64 x3)]) w = N79 o1 x2 x3 K w := by kernel_rfl
theorem calls79 (o1 : Option Addr) (x2 : Int) (x3 : Int) (K : Int → World → Prop) (w : World) (h : N79 o1 x2 x3 K w) : Calls Tryz.prog 79 #[(.pointer o1), (.int .i64 x2), (.int .i64 x3)] w fun en w' => ∃ (x16 : Int), en = .returned (.int .i64 x16) ∧ K x16 w' :=
 have e : (fun en w' => ExShs [(.one (.int .i64))] fun vs => en = .returned (tupled vs) ∧ ap [(.one (.int .i64))] K vs fun p => p w') = (fun (en : Ending) (w' : World) => ∃ (x16 : Int), en = .returned (.int .i64 x16) ∧ K x16 w') := by kernel_rfl
 e ▸ fn_sound tabOk mixed Tryz.func79 (by kernel_rfl : Tryz.f79.body = some code79) ann79 [(.pointer o1), (.int .i64 x2), (.int .i64 x3)] [(.one (.int .i64))] K w (by kernel_rfl) ((wp79 o1 x2 x3 K w).symm ▸ h)
end Go.Proofs.YtgggbmikmmljcaaGreat

namespace Go.Proofs.YtgggbmikmmljcaaGreat
open Go Go.V Go.Proofs
open Go.RowKit (Below)
/-! (*manystrand/manystrandref27.Count).Out -/
def N78 (o1 : Option Addr) (x2 : Int) (K : Int → Int → World → Prop) (w : World) : Prop :=
 Calls Tryz.prog 59 #[(.pointer o1), (.int .i64 x2)] w fun e5 w4 =>
 ∃ (o3 : Option Addr), e5 = .returned (.pointer o3) ∧
 (BoolK o3.isNone
 (K 0 5 w4)
 (AddrK o3 fun b6 =>
 ∃ (x7 : Int), w4.cell? (b6.add 1) = some (.int .i64 x7) ∧
 (K x7 0 w4)))
def ann78 : Ann := (.two .nil (.two .nil (.two (.two .nil (.two (.two .nil .nil) .nil)) (.two .nil .nil))))
noncomputable def code78 : Code := match Tryz.f78.body with | some c => c | none => .skip
theorem wp78 (o1 : Option Addr) (x2 : Int) (K : Int → Int → World → Prop) (w : World) : WP Tryz.prog tab code78 ann78 (fnQ tab Tryz.f78.results.toList [(.one (.int .i64)), (.one (.int .i64))] K) (argE 0 [(.pointer o1), (.int .i64 x2)]) w = N78 o1 x2 K w := by kernel_rfl
theorem calls78 (o1 : Option Addr) (x2 : Int) (K : Int → Int → World → Prop) (w : World) (h : N78 o1 x2 K w) : Calls Tryz.prog 78 #[(.pointer o1), (.int .i64 x2)] w fun en w' => ∃ (x8 : Int), ∃ (x9 : Int), en = .returned (.tuple #[(.int .i64 x8), (.int .i64 x9)]) ∧ K x8 x9 w' :=
 have e : (fun en w' => ExShs [(.one (.int .i64)), (.one (.int .i64))] fun vs => en = .returned (tupled vs) ∧ ap [(.one (.int .i64)), (.one (.int .i64))] K vs fun p => p w') = (fun (en : Ending) (w' : World) => ∃ (x8 : Int), ∃ (x9 : Int), en = .returned (.tuple #[(.int .i64 x8), (.int .i64 x9)]) ∧ K x8 x9 w') := by kernel_rfl
 e ▸ fn_sound tabOk mixed Tryz.func78 (by kernel_rfl : Tryz.f78.body = some code78) ann78 [(.pointer o1), (.int .i64 x2)] [(.one (.int .i64)), (.one (.int .i64))] K w (by kernel_rfl) ((wp78 o1 x2 K w).symm ▸ h)
end Go.Proofs.YtgggbmikmmljcaaGreat

namespace Go.Proofs.YtgggbmikmmljcaaGreat
open Go Go.V Go.Proofs
open Go.RowKit (Below)
/-! (*manystrand/manystrandref27.Count).Holds -/
def N66 (o1 : Option Addr) (x2 : Int) (x3 : Int) (K : Bool → World → Prop) (w : World) : Prop :=
 Calls Tryz.prog 59 #[(.pointer o1), (.int .i64 x3)] w fun e6 w5 =>
 ∃ (o4 : Option Addr), e6 = .returned (.pointer o4) ∧
 (Calls Tryz.prog 58 #[(.pointer o1), (.int .i64 x2)] w5 fun e9 w8 =>
 ∃ (p7 : Bool), e9 = .returned (.bool p7) ∧
 (BoolK p7
 (BoolK (!o4.isNone)
 (AddrK o1 fun b10 =>
 ∃ (a11 : Option Addr) (l11 : Nat) (c11 : Nat), w8.cell? (b10.add 5) = some (.slice a11 l11 c11) ∧
 ((0 ≤ (x2 : Int) ∧ (x2 : Int) < (l11 : Nat)) ∧
 AddrK a11 fun b12 =>
 ∃ (a13 : Option Addr) (l13 : Nat) (c13 : Nat), w8.cell? (b12.add ((x2 : Int).toNat * 1)) = some (.slice a13 l13 c13) ∧
 ((0 ≤ (IntKind.wrap .i64 (x3 - 1) : Int) ∧ (IntKind.wrap .i64 (x3 - 1) : Int) < (l13 : Nat)) ∧
 AddrK a13 fun b14 =>
 ∃ (x15 : Int), w8.cell? (b14.add ((IntKind.wrap .i64 (x3 - 1) : Int).toNat * 1)) = some (.int .i64 x15) ∧
 (BoolK (decide ((x15 : Int) > 0))
 (K true w8)
 (AddrK o4 fun b16 =>
 ∃ (x17 : Int), w8.cell? b16 = some (.int .i64 x17) ∧
 (BoolK ((x17 : Int) == x2)
 (AddrK o4 fun b18 =>
 ∃ (p19 : Bool), w8.cell? (b18.add 3) = some (.bool p19) ∧
 (K p19 w8))
 (K false w8)))))))
 (K false w8))
 (K false w8)))
def ann66 : Ann := (.two .nil (.two .nil (.two .nil .nil)))
noncomputable def code66 : Code := match Tryz.f66.body with | some c => c | none => .skip
theorem wp66 (o1 : Option Addr) (x2 : Int) (x3 : Int) (K : Bool → World → Prop) (w : World) : WP Tryz.prog tab code66 ann66 (fnQ tab Tryz.f66.results.toList [(.one .bool)] K) (argE 0 [(.pointer o1), (.int .i64 x2), (.int .i64 x3)]) w = N66 o1 x2 x3 K w := by kernel_rfl
theorem calls66 (o1 : Option Addr) (x2 : Int) (x3 : Int) (K : Bool → World → Prop) (w : World) (h : N66 o1 x2 x3 K w) : Calls Tryz.prog 66 #[(.pointer o1), (.int .i64 x2), (.int .i64 x3)] w fun en w' => ∃ (p20 : Bool), en = .returned (.bool p20) ∧ K p20 w' :=
 have e : (fun en w' => ExShs [(.one .bool)] fun vs => en = .returned (tupled vs) ∧ ap [(.one .bool)] K vs fun p => p w') = (fun (en : Ending) (w' : World) => ∃ (p20 : Bool), en = .returned (.bool p20) ∧ K p20 w') := by kernel_rfl
 e ▸ fn_sound tabOk mixed Tryz.func66 (by kernel_rfl : Tryz.f66.body = some code66) ann66 [(.pointer o1), (.int .i64 x2), (.int .i64 x3)] [(.one .bool)] K w (by kernel_rfl) ((wp66 o1 x2 x3 K w).symm ▸ h)
end Go.Proofs.YtgggbmikmmljcaaGreat

namespace Go.Proofs.YtgggbmikmmljcaaGreat
open Go Go.V Go.Proofs
open Go.RowKit (Below)
theorem rsltF : SlT Tryz.prog 34 (Kr.ty .fly) (Kr.sz .fly) 88 := sltM
theorem rsltI : SlT Tryz.prog 43 (Kr.ty .ints) (Kr.sz .ints) 8 := sltI
theorem rsltX : SlT Tryz.prog 43 (Kr.ty .idx) (Kr.sz .idx) 8 := sltI
theorem rsltO : SlT Tryz.prog 48 (Kr.ty .ord) (Kr.sz .ord) 16 := sltP
theorem rsltT : SlT Tryz.prog 44 (Kr.ty .ths) (Kr.sz .ths) 56 := slOk.ok (by kernel_rfl : slOk Tryz.prog 44 98 7 56 = true)
theorem rsltP : SlT Tryz.prog 47 (Kr.ty .pas) (Kr.sz .pas) 24 := slOk.ok (by kernel_rfl : slOk Tryz.prog 47 104 3 24 = true)
theorem rsltB : SlT Tryz.prog 84 (Kr.ty .bools) (Kr.sz .bools) 1 := slOk.ok (by kernel_rfl : slOk Tryz.prog 84 4 1 1 = true)
theorem rsltS : SlT Tryz.prog 45 (Kr.ty .sets) (Kr.sz .sets) 24 := slOk.ok (by kernel_rfl : slOk Tryz.prog 45 43 1 24 = true)
abbrev rp (r : Rb) : Value := .pointer (some ⟨r.b, 0, none⟩)
def Prm.isS (N : Prm) (x : Int) : Prop := 0 ≤ x ∧ x < N.s
def Prm.isT (N : Prm) (x : Int) : Prop := 1 ≤ x ∧ x ≤ N.n
instance decPS (N : Prm) (x : Int) : Decidable (N.isS x) := inferInstanceAs (Decidable (_ ∧ _))
instance decPT (N : Prm) (x : Int) : Decidable (N.isT x) := inferInstanceAs (Decidable (_ ∧ _))
section
variable {κ κ' : Ka RK} {N N' : Prm} {r : Rb} {w w' : World}
theorem bool_of {b : Bool} {P : Prop} [Decidable P] (h : b = decide P) : (b = true ↔ P) ∧ (b = false ↔ ¬ P) := by subst h; simp
theorem c58 (h : RR κ N r w) (x : Int) : Calls Tryz.prog 58 #[rp r, .int .i64 x] w fun en w' => ∃ p, en = .returned (.bool p) ∧ (p = decide (N.isS x) ∧ w' = w) := by
  refine calls58 _ _ _ w ?_
  refine BoolK.mk (fun t => ⟨_, h.c0, ?_, rfl⟩) (fun t => ⟨?_, rfl⟩)
  · have t := of_decide_eq_true t; rw [decide_eq_decide]; unfold Prm.isS; omega
  · have t := of_decide_eq_false t; symm; rw [decide_eq_false_iff_not]; unfold Prm.isS; omega
theorem Prm.sub {x : Int} (hx : N.isT x) (hn : N.n ≤ 1000) : IntKind.wrap .i64 (x - 1) = x - 1 ∧ 0 ≤ x - 1 ∧ x - 1 < N.n := by
  obtain ⟨h1, h2⟩ := hx
  exact ⟨wrap_id (by omega) (by omega), by omega, by omega⟩
theorem c59 (h : RR κ N r w) (x : Int) : Calls Tryz.prog 59 #[rp r, .int .i64 x] w fun en w' => ∃ o, en = .returned (.pointer o) ∧ (w' = w ∧ ((¬ N.isT x ∧ o = none) ∨ (N.isT x ∧ ThP κ o))) := by
  refine calls59 _ _ _ w ?_
  obtain ⟨a, c, hc, hs⟩ := h.c4
  have hn := h.ln.1
  refine BoolK.mk (fun t => ⟨rfl, .inl ⟨?_, rfl⟩⟩) (fun t => ⟨_, _, _, hc, BoolK.mk (fun t2 => ⟨rfl, .inl ⟨?_, rfl⟩⟩) (fun t2 => ?_)⟩)
  · have t := of_decide_eq_true t; unfold Prm.isT; omega
  · have t2 := of_decide_eq_true t2; unfold Prm.isT; omega
  · have t := of_decide_eq_false t; have t2 := of_decide_eq_false t2
    have hT : N.isT x := ⟨by omega, by omega⟩
    obtain ⟨e, p1, p2⟩ := Prm.sub hT hn
    refine ⟨_, _, _, hc, ?_⟩
    rw [e]
    rcases hs with hs | ⟨g, j, m, u, e1, e2, e3, e4, e5⟩
    · simp only [Prod.mk.injEq] at hs; omega
    simp only at e1 e3 e4 e5; subst e1
    refine ⟨⟨p1, p2⟩, rfl, .inr ⟨hT, g, j + (x - 1).toNat, m, u, ?_, e2, ?_⟩⟩
    · show some _ = _
      rw [add_mk]; congr 2; show j * 7 + _ = _; omega
    · have : (j + (x - 1).toNat + 1) * 7 ≤ (j + N.n) * 7 := Nat.mul_le_mul_right _ (by omega)
      have e4 : (j + N.n) * 7 ≤ u := e4
      omega
def Prm.addF (N : Prm) (d : Nat) : Prm := { N with f := N.f + d }
theorem Prm.le_addF (N : Prm) (d : Nat) : N.Le (N.addF d) := ⟨rfl, rfl, Nat.le_refl _, Nat.le_refl _, Nat.le_refl _, Nat.le_add_right _ _⟩
def PostR (κ : Ka RK) (N' : Prm) (r : Rb) (w w' : World) : Prop := ∃ κ', RR κ' N' r w' ∧ PkR κ κ' w w'
theorem RR.grow (h : RR κ N r w) (L : N.Le N') (hl : N'.p ≤ 1000 ∧ N'.o ≤ 1000 ∧ N'.h ≤ 1000 ∧ N'.f ≤ 10000000) : RR κ N' r w := h.step (Pk.refl _ _ _) (h.ty.weak (Or.le L κ)) L.s L.n hl
theorem c60 (h : RR κ N r w) {frm to : Int} (kind : ByteArray) {ent : Int} (n : Int) (h1 : N.isS frm) (h2 : N.isS to) (h3 : N.isT ent) (hf : N.f + 1 ≤ 10000000) :
    Calls Tryz.prog 60 #[rp r, .int .i64 frm, .int .i64 to, .string kind, .int .i64 ent, .int .i64 n] w fun en w' => en = .returned (.tuple #[]) ∧ PostR κ (N.addF 1) r w w' := by
  refine calls60 _ _ _ _ _ _ _ w ?_
  have h' := h.grow (N.le_addF 1) ⟨h.ln.2.1, h.ln.2.2.1, h.ln.2.2.2.1, hf⟩
  obtain ⟨a, l, c, hc, hs, hl⟩ := h.c11
  refine ⟨_, _, _, hc, ?_⟩
  refine Sl.push (okR _ r) rsltF h'.ty hs rfl (fun j v hj => ?_) (by omega) fun a' c' w2 κ2 ht hs' p => ?_
  · match j with
    | 0 => cases hj; exact ⟨_, rfl, h1⟩
    | 1 => cases hj; exact ⟨_, rfl, h2⟩
    | 2 => cases hj; exact ⟨_, rfl⟩
    | 3 => cases hj; exact ⟨_, rfl, h3⟩
    | 4 => cases hj; exact ⟨_, rfl⟩
    | 5 => cases hj; exact ⟨_, rfl⟩
    | 6 => cases hj; exact ⟨_, rfl⟩
    | 7 => cases hj; exact ⟨_, _, _, rfl⟩
    | j + 8 => cases hj
  · have p : PkR κ κ2 w w2 := p.mono (by rintro _ rfl; simp [NT])
    have g := h'.same p ht
    exact g.setSt (i := 11) (by omega) ⟨_, _, _, rfl, hs', by show l + 1 ≤ N.f + 1; omega⟩ fun w3 g3 p3 => ⟨κ2, g3, p.trans p3⟩
theorem c69 (h : RR κ N r w) {k : RK} {a : Option Addr} {l c : Nat} (hs : Sl Kr κ k (a, l, c)) (hk : k = .idx ∨ k = .ints) (hl : l ≤ 1000000) (x : Int) : Calls Tryz.prog 69 #[.slice a l c, .int .i64 x] w fun en w' => ∃ p, en = .returned (.bool p) ∧ w' = w := by
  refine calls69 _ _ _ _ _ w ?_
  refine ⟨fun i w' => ∃ k : Nat, i = k ∧ k ≤ l ∧ w' = w, fun i _ => l - i.toNat, ⟨⟨0, rfl, Nat.zero_le _, rfl⟩, trivial⟩, ?_⟩
  rintro w5 _ ⟨i, rfl, hi, rfl⟩
  refine BoolK.mk (fun t => ?_) (fun t => rfl)
  have t := of_decide_eq_true t
  have hsz : Kr.sz k = 1 := by rcases hk with rfl | rfl <;> rfl
  obtain ⟨g, o, n, u, v, rfl, _, _, hc, ho⟩ := h.el hs hsz (x := i) (by omega) t
  have : ∃ y, v = .int .i64 y := by
    rcases hk with rfl | rfl
    · obtain ⟨y, rfl, _⟩ := ho; exact ⟨y, rfl⟩
    · exact ho
  obtain ⟨y, rfl⟩ := this
  refine ⟨⟨by omega, t⟩, _, hc, BoolK.mk (fun _ => rfl) (fun _ => ?_)⟩
  rw [wrap_succ (by omega)]
  exact ⟨⟨i + 1, rfl, by omega, rfl⟩, by simp; omega⟩
theorem RR.thAt (h : RR κ N r w) {a : Option Addr} {c : Nat} (hs : Sl Kr κ .ths (a, N.n, c)) {x : Int} (h0 : 0 ≤ x) (h1 : x < N.n) : ∃ g o m u own out last f1 f2 f3 ha hl hc, a = some ⟨g, o, none⟩ ∧ κ g = some (.ths, m, u) ∧ N.isS own ∧ Sl Kr κ .idx (ha, hl, hc) ∧ hl ≤ N.h ∧
    (∀ j, j < 7 → o + x.toNat * 7 + j < u ∧ (o + x.toNat * 7 + j) % 7 = j) ∧
    w.cell? ((⟨g, o, none⟩ : Addr).add (x.toNat * 7)) = some (.int .i64 own) ∧ w.cell? (((⟨g, o, none⟩ : Addr).add (x.toNat * 7)).add 0) = some (.int .i64 own) ∧ w.cell? (((⟨g, o, none⟩ : Addr).add (x.toNat * 7)).add 1) = some (.int .i64 out) ∧ w.cell? (((⟨g, o, none⟩ : Addr).add (x.toNat * 7)).add 2) = some (.int .i64 last) ∧
    w.cell? (((⟨g, o, none⟩ : Addr).add (x.toNat * 7)).add 3) = some (.bool f1) ∧ w.cell? (((⟨g, o, none⟩ : Addr).add (x.toNat * 7)).add 4) = some (.bool f2) ∧ w.cell? (((⟨g, o, none⟩ : Addr).add (x.toNat * 7)).add 5) = some (.bool f3) ∧ w.cell? (((⟨g, o, none⟩ : Addr).add (x.toNat * 7)).add 6) = some (.slice ha hl hc) := by
  obtain ⟨g, o, m, u, rfl, hk, hj⟩ := h.els hs h0 (by simpa using h1)
  have f : ∀ j, j < 7 → ∃ v, w.cell? (((⟨g, o, none⟩ : Addr).add (x.toNat * 7)).add j) = some v ∧ Or N r κ .ths j v := fun j hj2 => by
    obtain ⟨_, _, v, p3, p4⟩ := hj j hj2
    exact ⟨v, by rw [add_mk, add_mk]; exact p3, p4⟩
  obtain ⟨_, c0, own, rfl, o0⟩ := f 0 (by omega)
  obtain ⟨_, c1, out, rfl⟩ := f 1 (by omega)
  obtain ⟨_, c2, last, rfl⟩ := f 2 (by omega)
  obtain ⟨_, c3, f1, rfl⟩ := f 3 (by omega)
  obtain ⟨_, c4, f2, rfl⟩ := f 4 (by omega)
  obtain ⟨_, c5, f3, rfl⟩ := f 5 (by omega)
  obtain ⟨_, c6, ha, hl, hc, rfl, o6, o7⟩ := f 6 (by omega)
  exact ⟨g, o, m, u, own, out, last, f1, f2, f3, ha, hl, hc, rfl, hk, o0, o6, o7, fun j hj2 => ⟨(hj j hj2).1, (hj j hj2).2.1⟩, by rw [add_mk0] at c0; exact c0, c0, c1, c2, c3, c4, c5, c6⟩
theorem c67 (h : RR κ N r w) (x y : Int) : Calls Tryz.prog 67 #[rp r, .int .i64 x, .int .i64 y] w fun en w' => ∃ p, en = .returned (.bool p) ∧ w' = w := by
  refine calls67 _ _ _ _ w ?_
  have hn := h.ln.1
  have hh := h.ln.2.2.2.1
  refine ⟨fun i w' => ∃ k : Nat, i = k ∧ k ≤ N.n ∧ w' = w, fun i _ => N.n - i.toNat, ⟨⟨0, rfl, Nat.zero_le _, rfl⟩, trivial⟩, ?_⟩
  rintro w5 _ ⟨i, rfl, hi, rfl⟩
  obtain ⟨a, c, hc, hs⟩ := h.c4
  refine ⟨_, _, _, hc, BoolK.mk (fun t => ?_) (fun t => rfl)⟩
  have t := of_decide_eq_true t
  have go : ∀ w6, w6 = w5 → (∃ k : Nat, IntKind.wrap .i64 ((i : Int) + 1) = k ∧ k ≤ N.n ∧ w6 = w5) ∧ N.n - (IntKind.wrap .i64 ((i : Int) + 1)).toNat < N.n - (i : Int).toNat := by
    rintro _ rfl
    rw [wrap_succ (by omega)]
    exact ⟨⟨i + 1, rfl, by omega, rfl⟩, by simp; omega⟩
  obtain ⟨g, o, m, u, own, out, last, f1, f2, f3, ha, hl, hc', rfl, hk, hS, hsl, hle, _, c0, _, _, _, _, _, c5, c6⟩ := h.thAt hs (x := i) (by omega) t
  refine ⟨_, _, _, hc, ⟨by omega, t⟩, _, c0, BoolK.mk (fun _ => ?_) (fun _ => go _ rfl)⟩
  refine ⟨_, _, _, hc, ⟨by omega, t⟩, _, c5, BoolK.mk (fun _ => ?_) (fun _ => go _ rfl)⟩
  refine ⟨_, _, _, hc, ⟨by omega, t⟩, _, _, _, c6, (c69 h hsl (.inl rfl) (by omega) y).mono ?_⟩
  rintro en w7 ⟨p, rfl, rfl⟩
  exact ⟨_, rfl, BoolK.mk (fun _ => rfl) (fun _ => go _ rfl)⟩
theorem RR.pasAt (h : RR κ N r w) {a : Option Addr} {l c : Nat} (hs : Sl Kr κ .pas (a, l, c)) {x : Int} (h0 : 0 ≤ x) (h1 : x < l) : ∃ g o p1 p2 p3, a = some ⟨g, o, none⟩ ∧ N.isS p1 ∧ N.isS p2 ∧ N.isT p3 ∧
    w.cell? ((⟨g, o, none⟩ : Addr).add (x.toNat * 3)) = some (.int .i64 p1) ∧ w.cell? (((⟨g, o, none⟩ : Addr).add (x.toNat * 3)).add 0) = some (.int .i64 p1) ∧ w.cell? (((⟨g, o, none⟩ : Addr).add (x.toNat * 3)).add 1) = some (.int .i64 p2) ∧ w.cell? (((⟨g, o, none⟩ : Addr).add (x.toNat * 3)).add 2) = some (.int .i64 p3) := by
  obtain ⟨g, o, m, u, rfl, hk, hj⟩ := h.els hs h0 h1
  have f : ∀ j, j < 3 → ∃ v, w.cell? (((⟨g, o, none⟩ : Addr).add (x.toNat * 3)).add j) = some v ∧ Or N r κ .pas j v := fun j hj2 => by
    obtain ⟨_, _, v, p3, p4⟩ := hj j hj2
    exact ⟨v, by rw [add_mk, add_mk]; exact p3, p4⟩
  obtain ⟨_, c0, p1, rfl, o0⟩ := f 0 (by omega)
  obtain ⟨_, c1, p2, rfl, o1⟩ := f 1 (by omega)
  obtain ⟨_, c2, p3, rfl, o2⟩ := f 2 (by omega)
  exact ⟨g, o, p1, p2, p3, rfl, o0, o1, o2, by rw [add_mk0] at c0; exact c0, c0, c1, c2⟩
theorem c65 (h : RR κ N r w) (x y : Int) : Calls Tryz.prog 65 #[rp r, .int .i64 x, .int .i64 y] w fun en w' => ∃ p, en = .returned (.bool p) ∧ w' = w := by
  refine calls65 _ _ _ _ w ?_
  obtain ⟨a, l, c, hc, hs, hl⟩ := h.c9
  have hp := h.ln.2.1
  refine ⟨fun i w' => ∃ k : Nat, i = k ∧ k ≤ l ∧ w' = w, fun i _ => l - i.toNat, ⟨⟨0, rfl, Nat.zero_le _, rfl⟩, trivial⟩, ?_⟩
  rintro w5 _ ⟨i, rfl, hi, rfl⟩
  refine ⟨_, _, _, hc, BoolK.mk (fun t => ?_) (fun t => rfl)⟩
  have t := of_decide_eq_true t
  have go : ∀ w6, w6 = w5 → (∃ k : Nat, IntKind.wrap .i64 ((i : Int) + 1) = k ∧ k ≤ l ∧ w6 = w5) ∧ l - (IntKind.wrap .i64 ((i : Int) + 1)).toNat < l - (i : Int).toNat := by
    rintro _ rfl
    rw [wrap_succ (by omega)]
    exact ⟨⟨i + 1, rfl, by omega, rfl⟩, by simp; omega⟩
  obtain ⟨g, o, p1, p2, p3, rfl, _, _, _, c0, _, _, c2⟩ := h.pasAt hs (x := i) (by omega) t
  refine ⟨_, _, _, hc, ⟨by omega, t⟩, _, c0, BoolK.mk (fun _ => ?_) (fun _ => go _ rfl)⟩
  exact ⟨_, _, _, hc, ⟨by omega, t⟩, _, c2, BoolK.mk (fun _ => rfl) (fun _ => go _ rfl)⟩
theorem RR.rdW (h : RR κ N r w) {x y : Int} (hx : N.isS x) (hy : N.isT y) {F : Int → Prop} (f : ∀ v, F v) :
    ∃ (a : Option Addr) (l c : Nat), w.cell? ((⟨r.b, 0, none⟩ : Addr).add 5) = some (.slice a l c) ∧ ((0 ≤ x ∧ x < (l : Nat)) ∧ AddrK a fun b => ∃ (a2 : Option Addr) (l2 c2 : Nat), w.cell? (b.add (x.toNat * 1)) = some (.slice a2 l2 c2) ∧
      ((0 ≤ IntKind.wrap .i64 (y - 1) ∧ IntKind.wrap .i64 (y - 1) < (l2 : Nat)) ∧ AddrK a2 fun b2 => ∃ v, w.cell? (b2.add ((IntKind.wrap .i64 (y - 1)).toNat * 1)) = some (.int .i64 v) ∧ F v)) := by
  refine ⟨_, _, _, h.c5, hx, ?_⟩
  obtain ⟨a, l, c, h1, h2, h3, _⟩ := h.tw.at_ hx.1 hx.2
  obtain ⟨e, q1, q2⟩ := Prm.sub hy h.ln.1
  refine ⟨a, l, c, h1, ?_⟩
  rw [e]
  obtain ⟨g, o, n, u, v, rfl, _, _, hc, y, rfl⟩ := h.el h2 rfl (x := y - 1) q1 (by omega)
  exact ⟨⟨q1, by omega⟩, y, hc, f y⟩
theorem c79 (h : RR κ N r w) (x y : Int) : Calls Tryz.prog 79 #[rp r, .int .i64 x, .int .i64 y] w fun en w' => ∃ p, en = .returned (.int .i64 p) ∧ w' = w := by
  refine calls79 _ _ _ (fun _ w' => w' = w) w ?_
  refine (c58 h x).mono ?_
  rintro en w4 ⟨p, rfl, hp, rfl⟩
  refine ⟨_, rfl, BoolK.mk (fun _ => rfl) (fun t => ?_)⟩
  have hS : N.isS x := by rw [hp] at t; simpa using t
  refine (c59 h y).mono ?_
  rintro en w4 ⟨o, rfl, rfl, ho⟩
  refine ⟨_, rfl, BoolK.mk (fun _ => rfl) (fun t => ?_)⟩
  rcases ho with ⟨_, rfl⟩ | ⟨hT, _⟩
  · cases t
  exact h.rdW hS hT fun v => rfl
theorem c78 (h : RR κ N r w) (x : Int) : Calls Tryz.prog 78 #[rp r, .int .i64 x] w fun en w' => ∃ p q, en = .returned (.tuple #[.int .i64 p, .int .i64 q]) ∧ w' = w := by
  refine calls78 _ _ (fun _ _ w' => w' = w) w ?_
  refine (c59 h x).mono ?_
  rintro en w4 ⟨o, rfl, rfl, ho⟩
  refine ⟨_, rfl, BoolK.mk (fun _ => rfl) (fun t => ?_)⟩
  rcases ho with ⟨_, rfl⟩ | ⟨hT, g, q, m, u, rfl, hk, hu⟩
  · cases t
  obtain ⟨_, c1, y, rfl⟩ := ThP.cell hk hu h (j := 1) (by omega)
  exact ⟨y, by rw [add_mk]; exact c1, rfl⟩
theorem c66 (h : RR κ N r w) (x y : Int) : Calls Tryz.prog 66 #[rp r, .int .i64 x, .int .i64 y] w fun en w' => ∃ p, en = .returned (.bool p) ∧ (w' = w ∧ (p = true → N.isS x ∧ N.isT y)) := by
  refine calls66 _ _ _ (fun p w' => w' = w ∧ (p = true → N.isS x ∧ N.isT y)) w ?_
  refine (c59 h y).mono ?_
  rintro en w4 ⟨o, rfl, rfl, ho⟩
  refine ⟨_, rfl, (c58 h x).mono ?_⟩
  rintro en w4 ⟨p, rfl, hp, rfl⟩
  refine ⟨_, rfl, BoolK.mk (fun t => ?_) (fun _ => ⟨rfl, fun e => by cases e⟩)⟩
  have hS : N.isS x := by rw [hp] at t; simpa using t
  refine BoolK.mk (fun t2 => ?_) (fun _ => ⟨rfl, fun e => by cases e⟩)
  rcases ho with ⟨_, rfl⟩ | ⟨hT, g, q, m, u, rfl, hk, hu⟩
  · cases t2
  refine h.rdW hS hT fun v => BoolK.mk (fun _ => ⟨rfl, fun _ => ⟨hS, hT⟩⟩) (fun _ => ?_)
  obtain ⟨_, c0, y0, rfl, _⟩ := ThP.cell hk hu h (j := 0) (by omega)
  obtain ⟨_, c3, y3, rfl⟩ := ThP.cell hk hu h (j := 3) (by omega)
  exact ⟨_, c0, BoolK.mk (fun _ => ⟨y3, by rw [add_mk]; exact c3, rfl, fun _ => ⟨hS, hT⟩⟩) (fun _ => ⟨rfl, fun e => by cases e⟩)⟩
end
end Go.Proofs.YtgggbmikmmljcaaGreat

namespace Go.Proofs.YtgggbmikmmljcaaGreat
open Go Go.V Go.Proofs
open Go.RowKit (Below)
/-! (*manystrand/manystrandref27.Count).pass -/
def N64 (o1 : Option Addr) (x2 : Int) (x3 : Int) (x4 : Int) (K : World → Prop) (w : World) : Prop :=
 AllocK w (#[(.int .i64 x2), (.int .i64 x3), (.int .i64 x4)]) 104 fun b5 w6 =>
 DrewK w6 fun w7 =>
 AddrK o1 fun b8 =>
 ∃ (a9 : Option Addr) (l9 : Nat) (c9 : Nat), w7.cell? (b8.add 5) = some (.slice a9 l9 c9) ∧
 (∃ (x10 : Int), w7.cell? b5 = some (.int .i64 x10) ∧
 ((0 ≤ (x10 : Int) ∧ (x10 : Int) < (l9 : Nat)) ∧
 AddrK a9 fun b11 =>
 ∃ (a12 : Option Addr) (l12 : Nat) (c12 : Nat), w7.cell? (b11.add ((x10 : Int).toNat * 1)) = some (.slice a12 l12 c12) ∧
 (∃ (x13 : Int), w7.cell? (b5.add 2) = some (.int .i64 x13) ∧
 ((0 ≤ (IntKind.wrap .i64 (x13 - 1) : Int) ∧ (IntKind.wrap .i64 (x13 - 1) : Int) < (l12 : Nat)) ∧
 AddrK a12 fun b14 =>
 ∃ (x15 : Int), w7.cell? (b14.add ((IntKind.wrap .i64 (x13 - 1) : Int).toNat * 1)) = some (.int .i64 x15) ∧
 (DrewK w7 fun w16 =>
 AddrK o1 fun b17 =>
 ∃ (a18 : Option Addr) (l18 : Nat) (c18 : Nat), w16.cell? (b17.add 5) = some (.slice a18 l18 c18) ∧
 (∃ (x19 : Int), w16.cell? b5 = some (.int .i64 x19) ∧
 ((0 ≤ (x19 : Int) ∧ (x19 : Int) < (l18 : Nat)) ∧
 AddrK a18 fun b20 =>
 ∃ (a21 : Option Addr) (l21 : Nat) (c21 : Nat), w16.cell? (b20.add ((x19 : Int).toNat * 1)) = some (.slice a21 l21 c21) ∧
 (∃ (x22 : Int), w16.cell? (b5.add 2) = some (.int .i64 x22) ∧
 ((2 : Int) ≠ 0 ∧
 ((0 ≤ (IntKind.wrap .i64 (x22 - 1) : Int) ∧ (IntKind.wrap .i64 (x22 - 1) : Int) < (l21 : Nat)) ∧
 AddrK a21 fun b23 =>
 SetK w16 (b23.add ((IntKind.wrap .i64 (x22 - 1) : Int).toNat * 1)) (.int .i64 (IntKind.wrap .i64 (x15 - (IntKind.wrap .i64 ((x15 : Int).tdiv 2))))) fun w24 =>
 DrewK w24 fun w25 =>
 AddrK o1 fun b26 =>
 ∃ (a27 : Option Addr) (l27 : Nat) (c27 : Nat), w25.cell? (b26.add 4) = some (.slice a27 l27 c27) ∧
 (∃ (x28 : Int), w25.cell? (b5.add 2) = some (.int .i64 x28) ∧
 ((0 ≤ (IntKind.wrap .i64 (x28 - 1) : Int) ∧ (IntKind.wrap .i64 (x28 - 1) : Int) < (l27 : Nat)) ∧
 AddrK a27 fun b29 =>
 ∃ (x30 : Int), w25.cell? (b29.add ((IntKind.wrap .i64 (x28 - 1) : Int).toNat * 7)) = some (.int .i64 x30) ∧
 (∃ (x31 : Int), w25.cell? (b5.add 1) = some (.int .i64 x31) ∧
 (BoolK ((x31 : Int) == x30)
 (∃ (x32 : Int), w25.cell? b5 = some (.int .i64 x32) ∧
 (∃ (x33 : Int), w25.cell? (b5.add 2) = some (.int .i64 x33) ∧
 ((2 : Int) ≠ 0 ∧
 (Calls Tryz.prog 60 #[(.pointer o1), (.int .i64 x32), (.int .i64 x30), (.string (⟨#[98, 97, 99, 107]⟩ : ByteArray)), (.int .i64 x33), (.int .i64 (IntKind.wrap .i64 ((x15 : Int).tdiv 2)))] w25 fun e35 w34 =>
 e35 = .returned (.tuple #[]) ∧
 (K w34)))))
 (∃ (x36 : Int), w25.cell? b5 = some (.int .i64 x36) ∧
 (∃ (x37 : Int), w25.cell? (b5.add 1) = some (.int .i64 x37) ∧
 (∃ (x38 : Int), w25.cell? (b5.add 2) = some (.int .i64 x38) ∧
 ((2 : Int) ≠ 0 ∧
 (Calls Tryz.prog 60 #[(.pointer o1), (.int .i64 x36), (.int .i64 x37), (.string (⟨#[112, 97, 115, 115]⟩ : ByteArray)), (.int .i64 x38), (.int .i64 (IntKind.wrap .i64 ((x15 : Int).tdiv 2)))] w25 fun e40 w39 =>
 e40 = .returned (.tuple #[]) ∧
 (K w39))))))))))))))))))))
def ann64 : Ann := (.two .nil (.two (.anyC 14 (.take 0 (.take 1 (.take 2 (.take 3 (.take 4 (.take 5 (.take 6 (.take 7 (.take 8 (.take 9 (.take 10 (.take 11 (.take 12 (.take 13 .done))))))))))))))) (.two (.anyC 16 (.take 0 (.take 1 (.take 2 (.take 3 (.take 4 (.take 5 (.take 6 (.take 7 (.take 8 (.take 9 (.take 10 (.take 11 (.take 12 (.take 13 (.take 14 (.take 15 .done))))))))))))))))) (.two (.anyC 11 (.take 0 (.take 1 (.take 2 (.take 3 (.take 4 (.take 5 (.take 6 (.take 7 (.take 8 (.take 9 (.take 10 .done)))))))))))) (.two .nil (.two .nil .nil))))))
noncomputable def code64 : Code := match Tryz.f64.body with | some c => c | none => .skip
theorem wp64 (o1 : Option Addr) (x2 : Int) (x3 : Int) (x4 : Int) (K : World → Prop) (w : World) : WP Tryz.prog tab code64 ann64 (fnQ tab Tryz.f64.results.toList [] K) (argE 0 [(.pointer o1), (.agg #[(.int .i64 x2), (.int .i64 x3), (.int .i64 x4)])]) w = N64 o1 x2 x3 x4 K w := by kernel_rfl
theorem calls64 (o1 : Option Addr) (x2 : Int) (x3 : Int) (x4 : Int) (K : World → Prop) (w : World) (h : N64 o1 x2 x3 x4 K w) : Calls Tryz.prog 64 #[(.pointer o1), (.agg #[(.int .i64 x2), (.int .i64 x3), (.int .i64 x4)])] w fun en w' => en = .returned (.tuple #[]) ∧ K w' :=
 have e : (fun en w' => ExShs [] fun vs => en = .returned (tupled vs) ∧ ap [] K vs fun p => p w') = (fun (en : Ending) (w' : World) => en = .returned (.tuple #[]) ∧ K w') := by kernel_rfl
 e ▸ fn_sound tabOk mixed Tryz.func64 (by kernel_rfl : Tryz.f64.body = some code64) ann64 [(.pointer o1), (.agg #[(.int .i64 x2), (.int .i64 x3), (.int .i64 x4)])] [] K w (by kernel_rfl) ((wp64 o1 x2 x3 x4 K w).symm ▸ h)
end Go.Proofs.YtgggbmikmmljcaaGreat

namespace Go.Proofs.YtgggbmikmmljcaaGreat
open Go Go.V Go.Proofs
open Go.RowKit (Below)
/-! (*manystrand/manystrandref27.Count).lose -/
def N91 (o1 : Option Addr) (x2 : Int) (x3 : Int) (K : World → Prop) (w : World) : Prop :=
 AddrK o1 fun b4 =>
 ∃ (a5 : Option Addr) (l5 : Nat) (c5 : Nat), w.cell? (b4.add 5) = some (.slice a5 l5 c5) ∧
 ((0 ≤ (x2 : Int) ∧ (x2 : Int) < (l5 : Nat)) ∧
 AddrK a5 fun b6 =>
 ∃ (a7 : Option Addr) (l7 : Nat) (c7 : Nat), w.cell? (b6.add ((x2 : Int).toNat * 1)) = some (.slice a7 l7 c7) ∧
 ((0 ≤ (IntKind.wrap .i64 (x3 - 1) : Int) ∧ (IntKind.wrap .i64 (x3 - 1) : Int) < (l7 : Nat)) ∧
 AddrK a7 fun b8 =>
 SetK w (b8.add ((IntKind.wrap .i64 (x3 - 1) : Int).toNat * 1)) (.int .i64 0) fun w9 =>
 ∃ (I10 : Option Addr → Nat → Nat → Int → World → Prop) (μ11 : Option Addr → Nat → Nat → Int → World → Nat),
 (I10 none 0 0 0 w9 ∧ True) ∧
 ∀ (w12 : World) (a13 : Option Addr) (l13 : Nat) (c13 : Nat) (x14 : Int), I10 a13 l13 c13 x14 w12 →
 AddrK o1 fun b15 =>
 ∃ (a16 : Option Addr) (l16 : Nat) (c16 : Nat), w12.cell? (b15.add 9) = some (.slice a16 l16 c16) ∧
 (BoolK (decide ((x14 : Int) < (l16 : Nat)))
 (∃ (J17 : Bool → World → Prop),
 (∀ (w18 : World) (p19 : Bool), J17 p19 w18 →
 BoolK p19
 (AddrK o1 fun b20 =>
 ∃ (a21 : Option Addr) (l21 : Nat) (c21 : Nat), w18.cell? (b20.add 9) = some (.slice a21 l21 c21) ∧
 ((0 ≤ (x14 : Int) ∧ (x14 : Int) < (l21 : Nat)) ∧
 AddrK a21 fun b22 =>
 ∃ (x23 : Int), w18.cell? ((b22.add ((x14 : Int).toNat * 3)).add 0) = some (.int .i64 x23) ∧
 (∃ (x24 : Int), w18.cell? ((b22.add ((x14 : Int).toNat * 3)).add 1) = some (.int .i64 x24) ∧
 (∃ (x25 : Int), w18.cell? ((b22.add ((x14 : Int).toNat * 3)).add 2) = some (.int .i64 x25) ∧
 (AllocK w18 (#[(.int .i64 x23), (.int .i64 x24), (.int .i64 x25)]) 104 fun b26 w27 =>
 ∃ (a28 : Option Addr), ∃ (l28 : Nat), ∃ (c28 : Nat), ∃ (w29 : World), Sem.run Tryz.prog (Builtin.append_ #[47, 47] 47 #[(.slice a13 l13 c13), (.slice (some b26) 1 1)]) w27 = .ok (.slice a28 l28 c28) w29 ∧
 (I10 a28 l28 c28 (IntKind.wrap .i64 (x14 + 1)) w29 ∧ μ11 a28 l28 c28 (IntKind.wrap .i64 (x14 + 1)) w29 < μ11 a13 l13 c13 x14 w12))))))
 (I10 a13 l13 c13 (IntKind.wrap .i64 (x14 + 1)) w18 ∧ μ11 a13 l13 c13 (IntKind.wrap .i64 (x14 + 1)) w18 < μ11 a13 l13 c13 x14 w12)) ∧
 (AddrK o1 fun b30 =>
 ∃ (a31 : Option Addr) (l31 : Nat) (c31 : Nat), w12.cell? (b30.add 9) = some (.slice a31 l31 c31) ∧
 ((0 ≤ (x14 : Int) ∧ (x14 : Int) < (l31 : Nat)) ∧
 AddrK a31 fun b32 =>
 ∃ (x33 : Int), w12.cell? (b32.add ((x14 : Int).toNat * 3)) = some (.int .i64 x33) ∧
 (BoolK ((x33 : Int) != x2)
 (J17 true w12)
 (AddrK o1 fun b34 =>
 ∃ (a35 : Option Addr) (l35 : Nat) (c35 : Nat), w12.cell? (b34.add 9) = some (.slice a35 l35 c35) ∧
 ((0 ≤ (x14 : Int) ∧ (x14 : Int) < (l35 : Nat)) ∧
 AddrK a35 fun b36 =>
 ∃ (x37 : Int), w12.cell? ((b36.add ((x14 : Int).toNat * 3)).add 2) = some (.int .i64 x37) ∧
 (J17 ((x37 : Int) != x3) w12)))))))
 (AddrK o1 fun b38 =>
 SetK w12 (b38.add 9) (.slice a13 l13 c13) fun w39 =>
 K w39))))
def ann91 : Ann := (.two .nil (.two .nil (.two (.two .nil (.one (.loop [(6, (.one .slice)), (7, (.one (.int .i64)))] [0, 1, 2] (.two (.two .nil (.two .nil .nil)) (.two (.one (.cut [(48, (.one .bool))] [0, 1, 2, 6, 7] .nil (.two .nil .nil))) .nil))))) .nil)))
noncomputable def code91 : Code := match Tryz.f91.body with | some c => c | none => .skip
theorem wp91 (o1 : Option Addr) (x2 : Int) (x3 : Int) (K : World → Prop) (w : World) : WP Tryz.prog tab code91 ann91 (fnQ tab Tryz.f91.results.toList [] K) (argE 0 [(.pointer o1), (.int .i64 x2), (.int .i64 x3)]) w = N91 o1 x2 x3 K w := by kernel_rfl
theorem calls91 (o1 : Option Addr) (x2 : Int) (x3 : Int) (K : World → Prop) (w : World) (h : N91 o1 x2 x3 K w) : Calls Tryz.prog 91 #[(.pointer o1), (.int .i64 x2), (.int .i64 x3)] w fun en w' => en = .returned (.tuple #[]) ∧ K w' :=
 have e : (fun en w' => ExShs [] fun vs => en = .returned (tupled vs) ∧ ap [] K vs fun p => p w') = (fun (en : Ending) (w' : World) => en = .returned (.tuple #[]) ∧ K w') := by kernel_rfl
 e ▸ fn_sound tabOk mixed Tryz.func91 (by kernel_rfl : Tryz.f91.body = some code91) ann91 [(.pointer o1), (.int .i64 x2), (.int .i64 x3)] [] K w (by kernel_rfl) ((wp91 o1 x2 x3 K w).symm ▸ h)
end Go.Proofs.YtgggbmikmmljcaaGreat

namespace Go.Proofs.YtgggbmikmmljcaaGreat
open Go Go.V Go.Proofs
open Go.RowKit (Below)
/-! (*manystrand/manystrandref27.Count).drop -/
def N68 (o1 : Option Addr) (x2 : Int) (x3 : Int) (K : World → Prop) (w : World) : Prop :=
 Calls Tryz.prog 59 #[(.pointer o1), (.int .i64 x3)] w fun e6 w5 =>
 ∃ (o4 : Option Addr), e6 = .returned (.pointer o4) ∧
 (AddrK o4 fun b7 =>
 ∃ (x8 : Int), w5.cell? b7 = some (.int .i64 x8) ∧
 (BoolK ((x8 : Int) == x2)
 (AddrK o4 fun b9 =>
 SetK w5 (b9.add 3) (.bool false) fun w10 =>
 K w10)
 (DrewK w5 fun w11 =>
 AddrK o4 fun b12 =>
 ∃ (x13 : Int), w11.cell? b12 = some (.int .i64 x13) ∧
 (AddrK o1 fun b14 =>
 ∃ (a15 : Option Addr) (l15 : Nat) (c15 : Nat), w11.cell? (b14.add 5) = some (.slice a15 l15 c15) ∧
 ((0 ≤ (x2 : Int) ∧ (x2 : Int) < (l15 : Nat)) ∧
 AddrK a15 fun b16 =>
 ∃ (a17 : Option Addr) (l17 : Nat) (c17 : Nat), w11.cell? (b16.add ((x2 : Int).toNat * 1)) = some (.slice a17 l17 c17) ∧
 ((0 ≤ (IntKind.wrap .i64 (x3 - 1) : Int) ∧ (IntKind.wrap .i64 (x3 - 1) : Int) < (l17 : Nat)) ∧
 AddrK a17 fun b18 =>
 ∃ (x19 : Int), w11.cell? (b18.add ((IntKind.wrap .i64 (x3 - 1) : Int).toNat * 1)) = some (.int .i64 x19) ∧
 (Calls Tryz.prog 60 #[(.pointer o1), (.int .i64 x2), (.int .i64 x13), (.string (⟨#[98, 97, 99, 107]⟩ : ByteArray)), (.int .i64 x3), (.int .i64 x19)] w11 fun e21 w20 =>
 e21 = .returned (.tuple #[]) ∧
 (Calls Tryz.prog 91 #[(.pointer o1), (.int .i64 x2), (.int .i64 x3)] w20 fun e23 w22 =>
 e23 = .returned (.tuple #[]) ∧
 (K w22)))))))))
def ann68 : Ann := (.two .nil (.two (.two .nil (.two (.two .nil .nil) .nil)) (.two (.anyC 18 (.take 0 (.take 1 (.take 2 (.take 3 (.take 4 (.take 5 (.take 6 (.take 7 (.take 8 (.take 9 (.take 10 (.take 11 (.take 12 (.take 13 (.take 14 (.take 15 (.take 16 (.take 17 .done))))))))))))))))))) .nil)))
noncomputable def code68 : Code := match Tryz.f68.body with | some c => c | none => .skip
theorem wp68 (o1 : Option Addr) (x2 : Int) (x3 : Int) (K : World → Prop) (w : World) : WP Tryz.prog tab code68 ann68 (fnQ tab Tryz.f68.results.toList [] K) (argE 0 [(.pointer o1), (.int .i64 x2), (.int .i64 x3)]) w = N68 o1 x2 x3 K w := by kernel_rfl
theorem calls68 (o1 : Option Addr) (x2 : Int) (x3 : Int) (K : World → Prop) (w : World) (h : N68 o1 x2 x3 K w) : Calls Tryz.prog 68 #[(.pointer o1), (.int .i64 x2), (.int .i64 x3)] w fun en w' => en = .returned (.tuple #[]) ∧ K w' :=
 have e : (fun en w' => ExShs [] fun vs => en = .returned (tupled vs) ∧ ap [] K vs fun p => p w') = (fun (en : Ending) (w' : World) => en = .returned (.tuple #[]) ∧ K w') := by kernel_rfl
 e ▸ fn_sound tabOk mixed Tryz.func68 (by kernel_rfl : Tryz.f68.body = some code68) ann68 [(.pointer o1), (.int .i64 x2), (.int .i64 x3)] [] K w (by kernel_rfl) ((wp68 o1 x2 x3 K w).symm ▸ h)
end Go.Proofs.YtgggbmikmmljcaaGreat

namespace Go.Proofs.YtgggbmikmmljcaaGreat
open Go Go.V Go.Proofs
open Go.RowKit (Below)
/-! (*manystrand/manystrandref27.Count).Drop -/
def N27 (o1 : Option Addr) (x2 : Int) (x3 : Int) (K : Int → World → Prop) (w : World) : Prop :=
 Calls Tryz.prog 58 #[(.pointer o1), (.int .i64 x2)] w fun e6 w5 =>
 ∃ (p4 : Bool), e6 = .returned (.bool p4) ∧
 (BoolK (!p4)
 (K 2 w5)
 (Calls Tryz.prog 66 #[(.pointer o1), (.int .i64 x2), (.int .i64 x3)] w5 fun e9 w8 =>
 ∃ (p7 : Bool), e9 = .returned (.bool p7) ∧
 (BoolK (!p7)
 (K 5 w8)
 (Calls Tryz.prog 67 #[(.pointer o1), (.int .i64 x2), (.int .i64 x3)] w8 fun e12 w11 =>
 ∃ (p10 : Bool), e12 = .returned (.bool p10) ∧
 (BoolK p10
 (K 100 w11)
 (Calls Tryz.prog 68 #[(.pointer o1), (.int .i64 x2), (.int .i64 x3)] w11 fun e14 w13 =>
 e14 = .returned (.tuple #[]) ∧
 (K 0 w13)))))))
def ann27 : Ann := (.two .nil (.two (.one (.two .nil (.two (.two .nil .nil) (.two .nil (.two (.two .nil .nil) (.two .nil (.two (.two .nil .nil) .nil))))))) (.two .nil (.two .nil .nil))))
noncomputable def code27 : Code := match Tryz.f27.body with | some c => c | none => .skip
theorem wp27 (o1 : Option Addr) (x2 : Int) (x3 : Int) (K : Int → World → Prop) (w : World) : WP Tryz.prog tab code27 ann27 (fnQ tab Tryz.f27.results.toList [(.one (.int .i64))] K) (argE 0 [(.pointer o1), (.int .i64 x2), (.int .i64 x3)]) w = N27 o1 x2 x3 K w := by kernel_rfl
theorem calls27 (o1 : Option Addr) (x2 : Int) (x3 : Int) (K : Int → World → Prop) (w : World) (h : N27 o1 x2 x3 K w) : Calls Tryz.prog 27 #[(.pointer o1), (.int .i64 x2), (.int .i64 x3)] w fun en w' => ∃ (x15 : Int), en = .returned (.int .i64 x15) ∧ K x15 w' :=
 have e : (fun en w' => ExShs [(.one (.int .i64))] fun vs => en = .returned (tupled vs) ∧ ap [(.one (.int .i64))] K vs fun p => p w') = (fun (en : Ending) (w' : World) => ∃ (x15 : Int), en = .returned (.int .i64 x15) ∧ K x15 w') := by kernel_rfl
 e ▸ fn_sound tabOk mixed Tryz.func27 (by kernel_rfl : Tryz.f27.body = some code27) ann27 [(.pointer o1), (.int .i64 x2), (.int .i64 x3)] [(.one (.int .i64))] K w (by kernel_rfl) ((wp27 o1 x2 x3 K w).symm ▸ h)
end Go.Proofs.YtgggbmikmmljcaaGreat

namespace Go.Proofs.YtgggbmikmmljcaaGreat
open Go Go.V Go.Proofs
open Go.RowKit (Below)
/-! (*manystrand/manystrandref27.Count).passes -/
def N92 (o1 : Option Addr) (x2 : Int) (x3 : Int) (K : World → Prop) (w : World) : Prop :=
 ∃ (I4 : Option Addr → Nat → Nat → Int → World → Prop) (μ5 : Option Addr → Nat → Nat → Int → World → Nat),
 (I4 none 0 0 0 w ∧ True) ∧
 ∀ (w6 : World) (a7 : Option Addr) (l7 : Nat) (c7 : Nat) (x8 : Int), I4 a7 l7 c7 x8 w6 →
 AddrK o1 fun b9 =>
 ∃ (a10 : Option Addr) (l10 : Nat) (c10 : Nat), w6.cell? (b9.add 9) = some (.slice a10 l10 c10) ∧
 (BoolK (decide ((x8 : Int) < (l10 : Nat)))
 (AddrK o1 fun b11 =>
 ∃ (a12 : Option Addr) (l12 : Nat) (c12 : Nat), w6.cell? (b11.add 9) = some (.slice a12 l12 c12) ∧
 ((0 ≤ (x8 : Int) ∧ (x8 : Int) < (l12 : Nat)) ∧
 AddrK a12 fun b13 =>
 ∃ (x14 : Int), w6.cell? ((b13.add ((x8 : Int).toNat * 3)).add 0) = some (.int .i64 x14) ∧
 (∃ (x15 : Int), w6.cell? ((b13.add ((x8 : Int).toNat * 3)).add 1) = some (.int .i64 x15) ∧
 (∃ (x16 : Int), w6.cell? ((b13.add ((x8 : Int).toNat * 3)).add 2) = some (.int .i64 x16) ∧
 (AllocK w6 (#[.int .i64 0, .int .i64 0, .int .i64 0]) 104 fun b17 w18 =>
 SetK w18 (b17.add 0) (.int .i64 x14) fun w19 =>
 SetK w19 (b17.add 1) (.int .i64 x15) fun w20 =>
 SetK w20 (b17.add 2) (.int .i64 x16) fun w21 =>
 ∃ (J22 : Bool → World → Prop),
 (∀ (w23 : World) (p24 : Bool), J22 p24 w23 →
 BoolK p24
 (∃ (x25 : Int), w23.cell? (b17.add 0) = some (.int .i64 x25) ∧
 (∃ (x26 : Int), w23.cell? (b17.add 1) = some (.int .i64 x26) ∧
 (∃ (x27 : Int), w23.cell? (b17.add 2) = some (.int .i64 x27) ∧
 (AllocK w23 (#[(.int .i64 x25), (.int .i64 x26), (.int .i64 x27)]) 104 fun b28 w29 =>
 ∃ (a30 : Option Addr), ∃ (l30 : Nat), ∃ (c30 : Nat), ∃ (w31 : World), Sem.run Tryz.prog (Builtin.append_ #[47, 47] 47 #[(.slice a7 l7 c7), (.slice (some b28) 1 1)]) w29 = .ok (.slice a30 l30 c30) w31 ∧
 (I4 a30 l30 c30 (IntKind.wrap .i64 (x8 + 1)) w31 ∧ μ5 a30 l30 c30 (IntKind.wrap .i64 (x8 + 1)) w31 < μ5 a7 l7 c7 x8 w6)))))
 (∃ (x32 : Int), w23.cell? (b17.add 0) = some (.int .i64 x32) ∧
 (∃ (x33 : Int), w23.cell? (b17.add 1) = some (.int .i64 x33) ∧
 (∃ (x34 : Int), w23.cell? (b17.add 2) = some (.int .i64 x34) ∧
 (Calls Tryz.prog 64 #[(.pointer o1), (.agg #[(.int .i64 x32), (.int .i64 x33), (.int .i64 x34)])] w23 fun e36 w35 =>
 e36 = .returned (.tuple #[]) ∧
 (I4 a7 l7 c7 (IntKind.wrap .i64 (x8 + 1)) w35 ∧ μ5 a7 l7 c7 (IntKind.wrap .i64 (x8 + 1)) w35 < μ5 a7 l7 c7 x8 w6)))))) ∧
 (∃ (x37 : Int), w21.cell? b17 = some (.int .i64 x37) ∧
 (BoolK ((x37 : Int) != x2)
 (J22 true w21)
 (∃ (x38 : Int), w21.cell? (b17.add 2) = some (.int .i64 x38) ∧
 (BoolK ((x38 : Int) != x3)
 (J22 true w21)
 (AddrK o1 fun b39 =>
 ∃ (a40 : Option Addr) (l40 : Nat) (c40 : Nat), w21.cell? (b39.add 5) = some (.slice a40 l40 c40) ∧
 ((0 ≤ (x2 : Int) ∧ (x2 : Int) < (l40 : Nat)) ∧
 AddrK a40 fun b41 =>
 ∃ (a42 : Option Addr) (l42 : Nat) (c42 : Nat), w21.cell? (b41.add ((x2 : Int).toNat * 1)) = some (.slice a42 l42 c42) ∧
 ((0 ≤ (IntKind.wrap .i64 (x3 - 1) : Int) ∧ (IntKind.wrap .i64 (x3 - 1) : Int) < (l42 : Nat)) ∧
 AddrK a42 fun b43 =>
 ∃ (x44 : Int), w21.cell? (b43.add ((IntKind.wrap .i64 (x3 - 1) : Int).toNat * 1)) = some (.int .i64 x44) ∧
 (J22 (decide ((x44 : Int) < 2)) w21)))))))))))))
 (AddrK o1 fun b45 =>
 SetK w6 (b45.add 9) (.slice a7 l7 c7) fun w46 =>
 Calls Tryz.prog 65 #[(.pointer o1), (.int .i64 x2), (.int .i64 x3)] w46 fun e49 w48 =>
 ∃ (p47 : Bool), e49 = .returned (.bool p47) ∧
 (BoolK p47
 (AddrK o1 fun b50 =>
 ∃ (a51 : Option Addr) (l51 : Nat) (c51 : Nat), w48.cell? (b50.add 4) = some (.slice a51 l51 c51) ∧
 ((0 ≤ (IntKind.wrap .i64 (x3 - 1) : Int) ∧ (IntKind.wrap .i64 (x3 - 1) : Int) < (l51 : Nat)) ∧
 AddrK a51 fun b52 =>
 ∃ (x53 : Int), w48.cell? (b52.add ((IntKind.wrap .i64 (x3 - 1) : Int).toNat * 7)) = some (.int .i64 x53) ∧
 (Calls Tryz.prog 60 #[(.pointer o1), (.int .i64 x2), (.int .i64 x53), (.string (⟨#[109, 111, 114, 101]⟩ : ByteArray)), (.int .i64 x3), (.int .i64 0)] w48 fun e55 w54 =>
 e55 = .returned (.tuple #[]) ∧
 (K w54))))
 (K w48))))
def ann92 : Ann := (.two .nil (.two (.two .nil (.one (.loop [(6, (.one .slice)), (7, (.one (.int .i64)))] [0, 1, 2] (.two (.two .nil (.two .nil .nil)) (.two (.one (.two .nil (.two (.cut [(48, (.one .bool))] [0, 1, 2, 6, 7, 8] .nil (.two (.two .nil .nil) .nil)) .nil))) .nil))))) (.two .nil (.two .nil (.two .nil .nil)))))
noncomputable def code92 : Code := match Tryz.f92.body with | some c => c | none => .skip
theorem wp92 (o1 : Option Addr) (x2 : Int) (x3 : Int) (K : World → Prop) (w : World) : WP Tryz.prog tab code92 ann92 (fnQ tab Tryz.f92.results.toList [] K) (argE 0 [(.pointer o1), (.int .i64 x2), (.int .i64 x3)]) w = N92 o1 x2 x3 K w := by kernel_rfl
theorem calls92 (o1 : Option Addr) (x2 : Int) (x3 : Int) (K : World → Prop) (w : World) (h : N92 o1 x2 x3 K w) : Calls Tryz.prog 92 #[(.pointer o1), (.int .i64 x2), (.int .i64 x3)] w fun en w' => en = .returned (.tuple #[]) ∧ K w' :=
 have e : (fun en w' => ExShs [] fun vs => en = .returned (tupled vs) ∧ ap [] K vs fun p => p w') = (fun (en : Ending) (w' : World) => en = .returned (.tuple #[]) ∧ K w') := by kernel_rfl
 e ▸ fn_sound tabOk mixed Tryz.func92 (by kernel_rfl : Tryz.f92.body = some code92) ann92 [(.pointer o1), (.int .i64 x2), (.int .i64 x3)] [] K w (by kernel_rfl) ((wp92 o1 x2 x3 K w).symm ▸ h)
end Go.Proofs.YtgggbmikmmljcaaGreat

namespace Go.Proofs.YtgggbmikmmljcaaGreat
open Go Go.V Go.Proofs
open Go.RowKit (Below)
section
variable {κ κ' : Ka RK} {N N' : Prm} {r : Rb} {w w' : World}
theorem RR.drew (h : RR κ N r w) {F : World → Prop} (f : ∀ w', RR κ N r w' → Ext w w' → PkR κ κ w w' → F w') : DrewK w F := DrewK.mk fun w' hx => f w' (h.ext hx) hx (h.pkExt hx)
theorem PostR.mk {κ' : Ka RK} (h : RR κ' N' r w') (p : PkR κ κ' w w') : PostR κ N' r w w' := ⟨κ', h, p⟩
theorem PostR.trans {κ1 : Ka RK} {w1 : World} (p : PkR κ κ1 w w1) (q : PostR κ1 N' r w1 w') : PostR κ N' r w w' := by
  obtain ⟨κ2, h, p2⟩ := q; exact ⟨κ2, h, p.trans p2⟩
theorem PostR.grow {N1 : Prm} (q : PostR κ N1 r w w') (L : N1.Le N') (hl : N'.p ≤ 1000 ∧ N'.o ≤ 1000 ∧ N'.h ≤ 1000 ∧ N'.f ≤ 10000000) : PostR κ N' r w w' := by
  obtain ⟨κ2, h, p2⟩ := q; exact ⟨κ2, h.grow L hl, p2⟩
theorem RR.lim (h : RR κ N r w) {d : Nat} (hf : N.f + d ≤ 10000000) : (N.addF d).p ≤ 1000 ∧ (N.addF d).o ≤ 1000 ∧ (N.addF d).h ≤ 1000 ∧ (N.addF d).f ≤ 10000000 := ⟨h.ln.2.1, h.ln.2.2.1, h.ln.2.2.2.1, hf⟩
theorem RR.elW (h : RR κ N r w) {x y : Int} (hx : N.isS x) (hy : N.isT y) : ∃ a l c g o n u v, w.cell? ((⟨r.gw, 0, none⟩ : Addr).add (x.toNat * 1)) = some (.slice a l c) ∧ (0 ≤ IntKind.wrap .i64 (y - 1) ∧ IntKind.wrap .i64 (y - 1) < (l : Nat)) ∧
    a = some ⟨g, o, none⟩ ∧ κ g = some (.ints, n, u) ∧ o + (IntKind.wrap .i64 (y - 1)).toNat * 1 < u ∧ w.cell? ((⟨g, o, none⟩ : Addr).add ((IntKind.wrap .i64 (y - 1)).toNat * 1)) = some (.int .i64 v) := by
  obtain ⟨a, l, c, h1, h2, h3, _⟩ := h.tw.at_ hx.1 hx.2
  obtain ⟨e, q1, q2⟩ := Prm.sub hy h.ln.1
  rw [e]
  obtain ⟨g, o, n, u, v, rfl, hk, hu, hc, y, rfl⟩ := h.el h2 rfl (x := y - 1) q1 (by omega)
  exact ⟨_, l, c, g, o, n, u, y, h1, ⟨q1, by omega⟩, rfl, hk, by omega, hc⟩
theorem RR.setW (h : RR κ N r w) {g o n u i : Nat} (hk : κ g = some (.ints, n, u)) (hu : o + i < u) (v : Int) {F : World → Prop} (f : ∀ w', RR κ N r w' → PkR κ κ w w' → But g w w' → F w') : SetK w ((⟨g, o, none⟩ : Addr).add i) (.int .i64 v) F := by
  rw [add_mk]
  exact h.setAt hk hu (by simp [NT]) (by rw [show (o + i) % Kr.sz .ints = 0 from Nat.mod_one _]; exact ⟨v, rfl⟩) f
theorem RR.wrW (h : RR κ N r w) {x y : Int} (hx : N.isS x) (hy : N.isT y) (v : Int) {F : World → Prop} (f : ∀ w', RR κ N r w' → PkR κ κ w w' → F w') :
    ∃ (a : Option Addr) (l c : Nat), w.cell? ((⟨r.b, 0, none⟩ : Addr).add 5) = some (.slice a l c) ∧ ((0 ≤ x ∧ x < (l : Nat)) ∧ AddrK a fun b => ∃ (a2 : Option Addr) (l2 c2 : Nat), w.cell? (b.add (x.toNat * 1)) = some (.slice a2 l2 c2) ∧
      ((0 ≤ IntKind.wrap .i64 (y - 1) ∧ IntKind.wrap .i64 (y - 1) < (l2 : Nat)) ∧ AddrK a2 fun b2 => SetK w (b2.add ((IntKind.wrap .i64 (y - 1)).toNat * 1)) (.int .i64 v) F)) := by
  refine ⟨_, _, _, h.c5, hx, ?_⟩
  obtain ⟨a, l, c, g, o, n, u, v0, h1, h2, rfl, hk, hu, hc⟩ := h.elW hx hy
  exact ⟨_, l, c, h1, h2, h.setW hk hu v fun w' h' p _ => f w' h' p⟩
def pCells (x y z : Int) : Array Value := #[.int .i64 x, .int .i64 y, .int .i64 z]
theorem box3 {b t : Nat} {x y z : Int} (h : Blk w b (pCells x y z) t) : w.cell? (⟨b, 0, none⟩ : Addr) = some (.int .i64 x) ∧ w.cell? ((⟨b, 0, none⟩ : Addr).add 0) = some (.int .i64 x) ∧ w.cell? ((⟨b, 0, none⟩ : Addr).add 1) = some (.int .i64 y) ∧ w.cell? ((⟨b, 0, none⟩ : Addr).add 2) = some (.int .i64 z) :=
  ⟨by rw [h.cell]; rfl, by rw [add_mk, h.cell]; rfl, by rw [add_mk, h.cell]; rfl, by rw [add_mk, h.cell]; rfl⟩
theorem c64 (h : RR κ N r w) {x y z : Int} (hx : N.isS x) (hy : N.isS y) (hz : N.isT z) (hf : N.f + 1 ≤ 10000000) :
    Calls Tryz.prog 64 #[rp r, .agg #[.int .i64 x, .int .i64 y, .int .i64 z]] w fun en w' => en = .returned (.tuple #[]) ∧ PostR κ (N.addF 1) r w w' := by
  refine calls64 _ _ _ _ _ w ?_
  refine AllocK.mk fun b w6 hb hB hx6 => ?_
  have hbn : κ b = none := h.fresh (by omega)
  have p6 := h.pkExt hx6
  refine (h.ext hx6).drew fun w7 h7 hx7 p7 => ?_
  obtain ⟨q0, _, q1, q2⟩ := box3 (hB.ext hx7)
  obtain ⟨a, l, c, g, o, n, u, v0, e1, e2, rfl, hk, hu, hc⟩ := h7.elW hx hz
  refine ⟨_, _, _, h7.c5, x, q0, hx, _, l, c, e1, z, q2, e2, v0, hc, ?_⟩
  refine h7.drew fun w16 h16 hx16 p16 => ?_
  obtain ⟨q0, _, q1, q2⟩ := box3 ((hB.ext hx7).ext hx16)
  obtain ⟨a, l, c, g, o, n, u, v1, e1, e2, rfl, hk, hu, hc⟩ := h16.elW hx hz
  refine ⟨_, _, _, h16.c5, x, q0, hx, _, l, c, e1, z, q2, by decide, e2, ?_⟩
  refine h16.setW hk hu _ fun w24 h24 p24 bu => ?_
  refine h24.drew fun w25 h25 hx25 p25 => ?_
  have hne : b ≠ g := fun e => by rw [e, hk] at hbn; cases hbn
  obtain ⟨q0, _, q1, q2⟩ := box3 ((bu.blk ((hB.ext hx7).ext hx16) hne).ext hx25)
  obtain ⟨a4, c4, hc4, hs4⟩ := h25.c4
  obtain ⟨e, i1, i2⟩ := Prm.sub hz h.ln.1
  obtain ⟨g, o, m, u, own, out, last, f1, f2, f3, ha, hl, hc', rfl, hk2, hS, hsl, hle, _, c0, _⟩ := h25.thAt hs4 (x := z - 1) i1 i2
  have p : PkR κ κ w w25 := (((p6.trans p7).trans p16).trans p24).trans p25
  refine ⟨_, _, _, hc4, z, q2, by rw [e]; exact ⟨i1, i2⟩, own, by rw [e]; exact c0, y, q1, BoolK.mk (fun _ => ?_) (fun _ => ?_)⟩
  · refine ⟨x, q0, z, q2, by decide, (c60 h25 _ _ hx hS hz hf).mono ?_⟩
    rintro en w34 ⟨rfl, q⟩
    exact ⟨rfl, q.trans p⟩
  · refine ⟨x, q0, y, q1, z, q2, by decide, (c60 h25 _ _ hx hy hz hf).mono ?_⟩
    rintro en w34 ⟨rfl, q⟩
    exact ⟨rfl, q.trans p⟩
theorem RR.pushP (h : RR κ N r w) {a : Option Addr} {l c : Nat} (hs : Sl Kr κ .pas (a, l, c)) (hl : l ≤ 1000) {x y z : Int} (hx : N.isS x) (hy : N.isS y) (hz : N.isT z) {ty te : Nat} {F : Option Addr → Nat → Nat → World → Prop}
    (f : ∀ a' c' w' κ', RR κ' N r w' → Sl Kr κ' .pas (a', l + 1, c') → PkR κ κ' w w' → F a' (l + 1) c' w') :
    AllocK w #[.int .i64 x, .int .i64 y, .int .i64 z] te fun b w1 => ∃ a' l' c' w2, Sem.run Tryz.prog (Builtin.append_ #[47, 47] ty #[.slice a l c, .slice (some b) 1 1]) w1 = .ok (.slice a' l' c') w2 ∧ F a' l' c' w2 := by
  refine Sl.push (okR N r) rsltP h.ty hs rfl (fun j v hj => ?_) (by omega) fun a' c' w2 κ2 ht hs' p => ?_
  · match j with
    | 0 => cases hj; exact ⟨_, rfl, hx⟩
    | 1 => cases hj; exact ⟨_, rfl, hy⟩
    | 2 => cases hj; exact ⟨_, rfl, hz⟩
    | j + 3 => cases hj
  · have p : PkR κ κ2 w w2 := p.mono (by rintro _ rfl; simp [NT])
    exact f a' c' w2 κ2 (h.same p ht) hs' p
theorem c91 (h : RR κ N r w) {x y : Int} (hx : N.isS x) (hy : N.isT y) :
    Calls Tryz.prog 91 #[rp r, .int .i64 x, .int .i64 y] w fun en w' => en = .returned (.tuple #[]) ∧ PostR κ N r w w' := by
  refine calls91 _ _ _ _ w ?_
  have hp := h.ln.2.1
  refine h.wrW hx hy _ fun w9 h9 p9 => ?_
  refine ⟨fun a l c i w' => ∃ (κ' : Ka RK) (k : Nat), i = k ∧ k ≤ N.p ∧ l ≤ k ∧ RR κ' N r w' ∧ PkR κ κ' w w' ∧ Sl Kr κ' .pas (a, l, c), fun _ _ _ i _ => N.p - i.toNat, ⟨⟨κ, 0, rfl, Nat.zero_le _, Nat.le_refl _, h9, p9, Sl.nil _ _ _⟩, trivial⟩, ?_⟩
  rintro w12 a l c _ ⟨κ1, i, rfl, hi, hl, h12, p12, hs⟩
  obtain ⟨a9, l9, c9, hc9, hs9, hl9⟩ := h12.c9
  refine ⟨_, _, _, hc9, BoolK.mk (fun t => ?_) (fun t => ?_)⟩
  · have t := of_decide_eq_true t
    obtain ⟨g, o, p1, p2, p3, rfl, z1, z2, z3, d, d0, d1, d2⟩ := h12.pasAt hs9 (x := i) (by omega) t
    refine ⟨fun _ w' => w' = w12, ?_, ?_⟩
    · rintro _ p rfl
      refine BoolK.mk (fun _ => ?_) (fun _ => ?_)
      · refine ⟨_, _, _, hc9, ⟨by omega, t⟩, p1, d0, p2, d1, p3, d2, ?_⟩
        refine h12.pushP hs (by omega) z1 z2 z3 fun a' c' w2 κ2 h2 hs2 q2 => ?_
        rw [wrap_succ (by omega)]
        exact ⟨⟨κ2, i + 1, rfl, by omega, by omega, h2, p12.trans q2, hs2⟩, by simp; omega⟩
      · rw [wrap_succ (by omega)]
        exact ⟨⟨κ1, i + 1, rfl, by omega, by omega, h12, p12, hs⟩, by simp; omega⟩
    · refine ⟨_, _, _, hc9, ⟨by omega, t⟩, p1, d, BoolK.mk (fun _ => rfl) (fun _ => ?_)⟩
      exact ⟨_, _, _, hc9, ⟨by omega, t⟩, p3, d2, rfl⟩
  · exact h12.setSt (i := 9) (by omega) ⟨a, l, c, rfl, hs, by omega⟩ fun w39 h39 p39 => PostR.mk h39 (p12.trans p39)
theorem c68 (h : RR κ N r w) {x y : Int} (hx : N.isS x) (hy : N.isT y) (hf : N.f + 1 ≤ 10000000) :
    Calls Tryz.prog 68 #[rp r, .int .i64 x, .int .i64 y] w fun en w' => en = .returned (.tuple #[]) ∧ PostR κ (N.addF 1) r w w' := by
  refine calls68 _ _ _ _ w ?_
  refine (c59 h y).mono ?_
  rintro en w5 ⟨o, rfl, rfl, ho⟩
  rcases ho with ⟨hn, _⟩ | ⟨_, g, q, m, u, rfl, hk, hu⟩
  · exact absurd hy hn
  obtain ⟨_, c0, y0, rfl, hS⟩ := ThP.cell hk hu h (j := 0) (by omega)
  refine ⟨_, rfl, y0, c0, BoolK.mk (fun _ => ?_) (fun _ => ?_)⟩
  · show SetK w5 ((⟨g, q * 7, none⟩ : Addr).add 3) _ _
    rw [add_mk]
    exact ThP.set hk hu h (j := 3) (by omega) ⟨false, rfl⟩ fun w10 h10 p10 => PostR.mk (h10.grow (N.le_addF 1) (h.lim hf)) p10
  · refine h.drew fun w11 h11 hx11 p11 => ?_
    refine ⟨y0, hx11.cell c0, ?_⟩
    refine h11.rdW hx hy fun v => ?_
    refine (c60 h11 _ _ hx hS hy hf).mono ?_
    rintro en w20 ⟨rfl, κ2, h20, p20⟩
    refine ⟨rfl, (c91 h20 hx hy).mono ?_⟩
    rintro en w22 ⟨rfl, q⟩
    exact ⟨rfl, q.trans (p11.trans p20)⟩
theorem c27 (h : RR κ N r w) (x y : Int) (hf : N.f + 1 ≤ 10000000) :
    Calls Tryz.prog 27 #[rp r, .int .i64 x, .int .i64 y] w fun en w' => ∃ e, en = .returned (.int .i64 e) ∧ PostR κ (N.addF 1) r w w' := by
  refine calls27 _ _ _ (fun _ w' => PostR κ (N.addF 1) r w w') w ?_
  have same : ∀ w1, w1 = w → PostR κ (N.addF 1) r w w1 := by rintro _ rfl; exact PostR.mk (h.grow (N.le_addF 1) (h.lim hf)) (Pk.refl _ _ _)
  refine (c58 h x).mono ?_
  rintro en w4 ⟨p, rfl, hp, rfl⟩
  refine ⟨_, rfl, BoolK.mk (fun _ => same _ rfl) (fun t => ?_)⟩
  refine (c66 h x y).mono ?_
  rintro en w4 ⟨p, rfl, rfl, hp2⟩
  refine ⟨_, rfl, BoolK.mk (fun _ => same _ rfl) (fun t2 => ?_)⟩
  obtain ⟨hS, hT⟩ := hp2 (by simpa using t2)
  refine (c67 h x y).mono ?_
  rintro en w4 ⟨p, rfl, rfl⟩
  refine ⟨_, rfl, BoolK.mk (fun _ => same _ rfl) (fun t3 => ?_)⟩
  refine (c68 h hS hT hf).mono ?_
  rintro en w22 ⟨rfl, q⟩
  exact ⟨rfl, q⟩
theorem c92 (h : RR κ N r w) {x y : Int} (hx : N.isS x) (hy : N.isT y) (hf : N.f + N.p + 1 ≤ 10000000) :
    Calls Tryz.prog 92 #[rp r, .int .i64 x, .int .i64 y] w fun en w' => en = .returned (.tuple #[]) ∧ PostR κ (N.addF (N.p + 1)) r w w' := by
  refine calls92 _ _ _ _ w ?_
  have hp := h.ln.2.1
  refine ⟨fun a l c i w' => ∃ (κ' : Ka RK) (k d : Nat), i = k ∧ k ≤ N.p ∧ l ≤ k ∧ d ≤ k ∧ RR κ' (N.addF d) r w' ∧ PkR κ κ' w w' ∧ Sl Kr κ' .pas (a, l, c), fun _ _ _ i _ => N.p - i.toNat, ⟨⟨κ, 0, 0, rfl, Nat.zero_le _, Nat.le_refl _, Nat.le_refl _, h, Pk.refl _ _ _, Sl.nil _ _ _⟩, trivial⟩, ?_⟩
  rintro w6 a l c _ ⟨κ1, i, d, rfl, hi, hl, hd, h6, p6, hs⟩
  obtain ⟨a9, l9, c9, hc9, hs9, hl9⟩ := h6.c9
  have hl9 : l9 ≤ N.p := hl9
  refine ⟨_, _, _, hc9, BoolK.mk (fun t => ?_) (fun t => ?_)⟩
  · have t := of_decide_eq_true t
    obtain ⟨g, o, p1, p2, p3, rfl, z1, z2, z3, e, e0, e1, e2⟩ := h6.pasAt hs9 (x := i) (by omega) t
    refine ⟨_, _, _, hc9, ⟨by omega, t⟩, p1, e0, p2, e1, p3, e2, ?_⟩
    refine AllocK.mk fun b w18 hb hB hx18 => ?_
    have hbn : κ1 b = none := h6.fresh (by omega)
    rw [add_mk, add_mk, add_mk]
    refine SetK.mk hB (by simp) fun w19 hB19 bu19 => SetK.mk hB19 (by simp) fun w20 hB20 bu20 => SetK.mk hB20 (by simp) fun w21 hB21 bu21 => ?_
    have hB21 : Blk w21 b (pCells p1 p2 p3) _ := hB21
    have bu := (bu19.trans bu20).trans bu21
    have h21 : RR κ1 (N.addF d) r w21 := (h6.ext hx18).but bu hbn
    have p21 : PkR κ κ1 w w21 := (p6.trans (h6.pkExt hx18)).but bu (by have := p6.size; omega) (by
      cases hk : κ b with
      | none => rfl
      | some v => obtain ⟨k, n, u⟩ := v; obtain ⟨u', _, e'⟩ := p6.le _ _ _ _ hk; rw [hbn] at e'; cases e')
    obtain ⟨q, q0, q1, q2⟩ := box3 hB21
    refine ⟨fun _ w' => w' = w21, ?_, ?_⟩
    · rintro _ p rfl
      rw [wrap_succ (by omega)]
      refine BoolK.mk (fun _ => ?_) (fun _ => ?_)
      · refine ⟨p1, by rw [← q0]; rfl, p2, by rw [← q1]; rfl, p3, by rw [← q2]; rfl, ?_⟩
        refine h21.pushP hs (by omega) z1 z2 z3 fun a' c' w2 κ2 h2 hs2 r2 => ?_
        exact ⟨⟨κ2, i + 1, d, rfl, by omega, by omega, by omega, h2, p21.trans r2, hs2⟩, by simp; omega⟩
      · refine ⟨p1, by rw [← q0]; rfl, p2, by rw [← q1]; rfl, p3, by rw [← q2]; rfl, ?_⟩
        refine (c64 h21 z1 z2 z3 (by show N.f + d + 1 ≤ _; omega)).mono ?_
        rintro en w35 ⟨rfl, κ2, h35, r2⟩
        exact ⟨rfl, ⟨κ2, i + 1, d + 1, rfl, by omega, by omega, by omega, h35, p21.trans r2, hs.le r2.le⟩, by simp; omega⟩
    · refine ⟨p1, q, BoolK.mk (fun _ => rfl) (fun _ => ⟨p3, by rw [← q2]; rfl, BoolK.mk (fun _ => rfl) (fun _ => ?_)⟩)⟩
      exact h21.rdW hx hy fun v => rfl
  · refine h6.setSt (i := 9) (by omega) ⟨a, l, c, rfl, hs, by show l ≤ N.p; omega⟩ fun w46 h46 p46 => ?_
    refine (c65 h46 x y).mono ?_
    rintro en w48 ⟨p, rfl, rfl⟩
    have fin : ∀ {w2 : World} {d2 : Nat}, d2 ≤ d + 1 → PostR κ ((N.addF d2)) r w w2 → PostR κ (N.addF (N.p + 1)) r w w2 := fun hd2 q =>
      q.grow ⟨rfl, rfl, Nat.le_refl _, Nat.le_refl _, Nat.le_refl _, by show N.f + _ ≤ N.f + _; omega⟩ (h.lim (by omega))
    refine ⟨_, rfl, BoolK.mk (fun _ => ?_) (fun _ => fin (Nat.le_succ d) (PostR.mk h46 (p6.trans p46)))⟩
    obtain ⟨a4, c4, hc4, hs4⟩ := h46.c4
    obtain ⟨e, i1, i2⟩ := Prm.sub hy h.ln.1
    obtain ⟨g, o, m, u, own, out, last, f1, f2, f3, ha, hl, hc', rfl, hk2, hS, hsl, hle, _, c0, _⟩ := h46.thAt hs4 (x := y - 1) i1 i2
    refine ⟨_, _, _, hc4, by rw [e]; exact ⟨i1, i2⟩, own, by rw [e]; exact c0, ?_⟩
    refine (c60 h46 _ _ hx hS hy (by show N.f + d + 1 ≤ _; omega)).mono ?_
    rintro en w54 ⟨rfl, q⟩
    exact ⟨rfl, fin (d2 := d + 1) (Nat.le_refl _) (q.trans (p6.trans p46))⟩
end
end Go.Proofs.YtgggbmikmmljcaaGreat

namespace Go.Proofs.YtgggbmikmmljcaaGreat
open Go Go.V Go.Proofs
open Go.RowKit (Below)
/-! (*manystrand/manystrandref27.Count).live -/
def N75 (o1 : Option Addr) (K : Option Addr → Nat → Nat → World → Prop) (w : World) : Prop :=
 AddrK o1 fun b2 =>
 ∃ (a3 : Option Addr) (l3 : Nat) (c3 : Nat), w.cell? (b2.add 4) = some (.slice a3 l3 c3) ∧
 ((0 ≤ ((l3 : Nat) : Int) ∧ ((l3 : Nat) : Int) ≤ (l3 : Nat) ∧ ((1 : Nat) : Int) * (l3 : Nat) ≤ 281474976710656 ∧ ((l3 : Nat) : Int) ≤ 9223372036854775807) ∧
 AllocK w (madeCells (#[.bool false]) (((l3 : Nat) : Int).toNat * 1)) 4 fun b4 w5 =>
 ∃ (I6 : Int → World → Prop) (μ7 : Int → World → Nat),
 (I6 0 w5 ∧ True) ∧
 ∀ (w8 : World) (x9 : Int), I6 x9 w8 →
 BoolK (decide ((x9 : Int) < (((l3 : Nat) : Int).toNat : Nat)))
 (AddrK o1 fun b10 =>
 ∃ (a11 : Option Addr) (l11 : Nat) (c11 : Nat), w8.cell? (b10.add 4) = some (.slice a11 l11 c11) ∧
 ((0 ≤ (x9 : Int) ∧ (x9 : Int) < (l11 : Nat)) ∧
 AddrK a11 fun b12 =>
 ∃ (p13 : Bool), w8.cell? ((b12.add ((x9 : Int).toNat * 7)).add 5) = some (.bool p13) ∧
 ((0 ≤ (x9 : Int) ∧ (x9 : Int) < (((l3 : Nat) : Int).toNat : Nat)) ∧
 SetK w8 (b4.add ((x9 : Int).toNat * 1)) (.bool (!p13)) fun w14 =>
 I6 (IntKind.wrap .i64 (x9 + 1)) w14 ∧ μ7 (IntKind.wrap .i64 (x9 + 1)) w14 < μ7 x9 w8)))
 (∃ (I15 : Bool → World → Prop) (μ16 : Bool → World → Nat),
 (I15 true w8 ∧ True) ∧
 ∀ (w17 : World) (p18 : Bool), I15 p18 w17 →
 BoolK p18
 (∃ (I19 : Bool → Int → World → Prop) (μ20 : Bool → Int → World → Nat),
 (I19 false 0 w17 ∧ True) ∧
 ∀ (w21 : World) (p22 : Bool) (x23 : Int), I19 p22 x23 w21 →
 BoolK (decide ((x23 : Int) < (((l3 : Nat) : Int).toNat : Nat)))
 (AddrK o1 fun b24 =>
 ∃ (a25 : Option Addr) (l25 : Nat) (c25 : Nat), w21.cell? (b24.add 4) = some (.slice a25 l25 c25) ∧
 ((0 ≤ (x23 : Int) ∧ (x23 : Int) < (l25 : Nat)) ∧
 AddrK a25 fun b26 =>
 ∃ (x27 : Int), w21.cell? ((b26.add ((x23 : Int).toNat * 7)).add 0) = some (.int .i64 x27) ∧
 (∃ (x28 : Int), w21.cell? ((b26.add ((x23 : Int).toNat * 7)).add 1) = some (.int .i64 x28) ∧
 (∃ (x29 : Int), w21.cell? ((b26.add ((x23 : Int).toNat * 7)).add 2) = some (.int .i64 x29) ∧
 (∃ (p30 : Bool), w21.cell? ((b26.add ((x23 : Int).toNat * 7)).add 3) = some (.bool p30) ∧
 (∃ (p31 : Bool), w21.cell? ((b26.add ((x23 : Int).toNat * 7)).add 4) = some (.bool p31) ∧
 (∃ (p32 : Bool), w21.cell? ((b26.add ((x23 : Int).toNat * 7)).add 5) = some (.bool p32) ∧
 (∃ (a33 : Option Addr) (l33 : Nat) (c33 : Nat), w21.cell? ((b26.add ((x23 : Int).toNat * 7)).add 6) = some (.slice a33 l33 c33) ∧
 (AllocK w21 (#[.int .i64 0, .int .i64 0, .int .i64 0, .bool false, .bool false, .bool false, .slice none 0 0]) 98 fun b34 w35 =>
 SetK w35 (b34.add 0) (.int .i64 x27) fun w36 =>
 SetK w36 (b34.add 1) (.int .i64 x28) fun w37 =>
 SetK w37 (b34.add 2) (.int .i64 x29) fun w38 =>
 SetK w38 (b34.add 3) (.bool p30) fun w39 =>
 SetK w39 (b34.add 4) (.bool p31) fun w40 =>
 SetK w40 (b34.add 5) (.bool p32) fun w41 =>
 SetK w41 (b34.add 6) (.slice a33 l33 c33) fun w42 =>
 (0 ≤ (x23 : Int) ∧ (x23 : Int) < (((l3 : Nat) : Int).toNat : Nat)) ∧
 ∃ (p43 : Bool), w42.cell? (b4.add ((x23 : Int).toNat * 1)) = some (.bool p43) ∧
 (BoolK (!p43)
 (I19 p22 (IntKind.wrap .i64 (x23 + 1)) w42 ∧ μ20 p22 (IntKind.wrap .i64 (x23 + 1)) w42 < μ20 p22 x23 w21)
 (∃ (p44 : Bool), w42.cell? (b34.add 3) = some (.bool p44) ∧
 (BoolK p44
 (I19 p22 (IntKind.wrap .i64 (x23 + 1)) w42 ∧ μ20 p22 (IntKind.wrap .i64 (x23 + 1)) w42 < μ20 p22 x23 w21)
 (∃ (x45 : Int), w42.cell? (b34.add 1) = some (.int .i64 x45) ∧
 (BoolK (decide ((x45 : Int) > 0))
 (I19 p22 (IntKind.wrap .i64 (x23 + 1)) w42 ∧ μ20 p22 (IntKind.wrap .i64 (x23 + 1)) w42 < μ20 p22 x23 w21)
 (∃ (p46 : Bool), w42.cell? (b34.add 4) = some (.bool p46) ∧
 (BoolK p46
 (I19 p22 (IntKind.wrap .i64 (x23 + 1)) w42 ∧ μ20 p22 (IntKind.wrap .i64 (x23 + 1)) w42 < μ20 p22 x23 w21)
 (∃ (I47 : Bool → Int → World → Prop) (μ48 : Bool → Int → World → Nat),
 (I47 false 0 w42 ∧ True) ∧
 ∀ (w49 : World) (p50 : Bool) (x51 : Int), I47 p50 x51 w49 →
 BoolK (decide ((x51 : Int) < (((l3 : Nat) : Int).toNat : Nat)))
 (DrewK w49 fun w52 =>
 BoolK p50
 (I47 true (IntKind.wrap .i64 (x51 + 1)) w52 ∧ μ48 true (IntKind.wrap .i64 (x51 + 1)) w52 < μ48 p50 x51 w49)
 ((0 ≤ (x51 : Int) ∧ (x51 : Int) < (((l3 : Nat) : Int).toNat : Nat)) ∧
 ∃ (p53 : Bool), w52.cell? (b4.add ((x51 : Int).toNat * 1)) = some (.bool p53) ∧
 (BoolK p53
 (AddrK o1 fun b54 =>
 ∃ (a55 : Option Addr) (l55 : Nat) (c55 : Nat), w52.cell? (b54.add 4) = some (.slice a55 l55 c55) ∧
 ((0 ≤ (x51 : Int) ∧ (x51 : Int) < (l55 : Nat)) ∧
 AddrK a55 fun b56 =>
 ∃ (x57 : Int), w52.cell? (b56.add ((x51 : Int).toNat * 7)) = some (.int .i64 x57) ∧
 (∃ (x58 : Int), w52.cell? b34 = some (.int .i64 x58) ∧
 (BoolK ((x57 : Int) == x58)
 (AddrK o1 fun b59 =>
 ∃ (a60 : Option Addr) (l60 : Nat) (c60 : Nat), w52.cell? (b59.add 4) = some (.slice a60 l60 c60) ∧
 ((0 ≤ (x51 : Int) ∧ (x51 : Int) < (l60 : Nat)) ∧
 AddrK a60 fun b61 =>
 ∃ (a62 : Option Addr) (l62 : Nat) (c62 : Nat), w52.cell? ((b61.add ((x51 : Int).toNat * 7)).add 6) = some (.slice a62 l62 c62) ∧
 (Calls Tryz.prog 69 #[(.slice a62 l62 c62), (.int .i64 (IntKind.wrap .i64 (x23 + 1)))] w52 fun e65 w64 =>
 ∃ (p63 : Bool), e65 = .returned (.bool p63) ∧
 (I47 p63 (IntKind.wrap .i64 (x51 + 1)) w64 ∧ μ48 p63 (IntKind.wrap .i64 (x51 + 1)) w64 < μ48 p50 x51 w49))))
 (I47 false (IntKind.wrap .i64 (x51 + 1)) w52 ∧ μ48 false (IntKind.wrap .i64 (x51 + 1)) w52 < μ48 p50 x51 w49)))))
 (I47 false (IntKind.wrap .i64 (x51 + 1)) w52 ∧ μ48 false (IntKind.wrap .i64 (x51 + 1)) w52 < μ48 p50 x51 w49))))
 (BoolK (!p50)
 ((0 ≤ (x23 : Int) ∧ (x23 : Int) < (((l3 : Nat) : Int).toNat : Nat)) ∧
 SetK w49 (b4.add ((x23 : Int).toNat * 1)) (.bool false) fun w66 =>
 I19 true (IntKind.wrap .i64 (x23 + 1)) w66 ∧ μ20 true (IntKind.wrap .i64 (x23 + 1)) w66 < μ20 p22 x23 w21)
 (I19 p22 (IntKind.wrap .i64 (x23 + 1)) w49 ∧ μ20 p22 (IntKind.wrap .i64 (x23 + 1)) w49 < μ20 p22 x23 w21)))))))))))))))))))
 (I15 p22 w21 ∧ μ16 p22 w21 < μ16 p18 w17))
 (K (some b4) (((l3 : Nat) : Int).toNat) (((l3 : Nat) : Int).toNat) w17)))
def ann75 : Ann := (.two .nil (.two .nil (.two (.two .nil (.one (.loop [(4, (.one (.int .i64)))] [0, 3] (.two (.two .nil (.two .nil .nil)) (.two (.one .nil) .nil))))) (.two (.two .nil (.one (.loop [(5, (.one .bool))] [0, 3] (.two (.two .nil (.two .nil .nil)) (.one (.two .nil (.two .nil (.one (.loop [(5, (.one .bool)), (6, (.one (.int .i64)))] [0, 3] (.two (.two .nil (.two .nil .nil)) (.two (.one (.two .nil (.two (.two .nil (.two .nil .nil)) (.two .nil (.two (.two .nil (.one (.loop [(8, (.one .bool)), (9, (.one (.int .i64)))] [0, 3, 5, 6, 7] (.two (.two .nil (.two .nil .nil)) (.two (.one (.anyC 30 (.take 0 (.take 1 (.take 2 (.take 3 (.take 4 (.take 5 (.take 6 (.take 7 (.take 8 (.take 9 (.take 10 (.take 11 (.take 12 (.take 13 (.take 14 (.take 15 (.take 16 (.take 17 (.take 18 (.take 19 (.take 20 (.take 21 (.take 22 (.take 23 (.take 24 (.take 25 (.take 26 (.take 27 (.take 28 (.take 29 .done)))))))))))))))))))))))))))))))) .nil))))) (.two .nil (.two .nil .nil))))))) .nil))))))))))) (.two .nil .nil)))))
noncomputable def code75 : Code := match Tryz.f75.body with | some c => c | none => .skip
theorem wp75 (o1 : Option Addr) (K : Option Addr → Nat → Nat → World → Prop) (w : World) : WP Tryz.prog tab code75 ann75 (fnQ tab Tryz.f75.results.toList [(.one .slice)] K) (argE 0 [(.pointer o1)]) w = N75 o1 K w := by kernel_rfl
theorem calls75 (o1 : Option Addr) (K : Option Addr → Nat → Nat → World → Prop) (w : World) (h : N75 o1 K w) : Calls Tryz.prog 75 #[(.pointer o1)] w fun en w' => ∃ (a67 : Option Addr), ∃ (l67 : Nat), ∃ (c67 : Nat), en = .returned (.slice a67 l67 c67) ∧ K a67 l67 c67 w' :=
 have e : (fun en w' => ExShs [(.one .slice)] fun vs => en = .returned (tupled vs) ∧ ap [(.one .slice)] K vs fun p => p w') = (fun (en : Ending) (w' : World) => ∃ (a67 : Option Addr), ∃ (l67 : Nat), ∃ (c67 : Nat), en = .returned (.slice a67 l67 c67) ∧ K a67 l67 c67 w') := by kernel_rfl
 e ▸ fn_sound tabOk mixed Tryz.func75 (by kernel_rfl : Tryz.f75.body = some code75) ann75 [(.pointer o1)] [(.one .slice)] K w (by kernel_rfl) ((wp75 o1 K w).symm ▸ h)
end Go.Proofs.YtgggbmikmmljcaaGreat

namespace Go.Proofs.YtgggbmikmmljcaaGreat
open Go Go.V Go.Proofs
open Go.RowKit (Below)
/-! (*manystrand/manystrandref27.Count).State -/
def N63 (o1 : Option Addr) (x2 : Int) (K : ByteArray → World → Prop) (w : World) : Prop :=
 Calls Tryz.prog 59 #[(.pointer o1), (.int .i64 x2)] w fun e5 w4 =>
 ∃ (o3 : Option Addr), e5 = .returned (.pointer o3) ∧
 (BoolK o3.isNone
 (K (⟨#[]⟩ : ByteArray) w4)
 (AddrK o3 fun b6 =>
 ∃ (p7 : Bool), w4.cell? (b6.add 4) = some (.bool p7) ∧
 (BoolK p7
 (K (⟨#[101, 120, 112, 105, 114, 101, 100]⟩ : ByteArray) w4)
 (Calls Tryz.prog 75 #[(.pointer o1)] w4 fun e10 w9 =>
 ∃ (a8 : Option Addr), ∃ (l8 : Nat), ∃ (c8 : Nat), e10 = .returned (.slice a8 l8 c8) ∧
 ((0 ≤ (IntKind.wrap .i64 (x2 - 1) : Int) ∧ (IntKind.wrap .i64 (x2 - 1) : Int) < (l8 : Nat)) ∧
 AddrK a8 fun b11 =>
 ∃ (p12 : Bool), w9.cell? (b11.add ((IntKind.wrap .i64 (x2 - 1) : Int).toNat * 1)) = some (.bool p12) ∧
 (BoolK p12
 (K (⟨#[108, 105, 118, 101]⟩ : ByteArray) w9)
 (K (⟨#[100, 101, 97, 100]⟩ : ByteArray) w9)))))))
def ann63 : Ann := (.two .nil (.two .nil (.two (.one (.two .nil (.two (.two .nil .nil) (.two .nil (.two (.two .nil .nil) (.two .nil (.two (.two .nil .nil) .nil))))))) (.two .nil .nil))))
noncomputable def code63 : Code := match Tryz.f63.body with | some c => c | none => .skip
theorem wp63 (o1 : Option Addr) (x2 : Int) (K : ByteArray → World → Prop) (w : World) : WP Tryz.prog tab code63 ann63 (fnQ tab Tryz.f63.results.toList [(.one .str)] K) (argE 0 [(.pointer o1), (.int .i64 x2)]) w = N63 o1 x2 K w := by kernel_rfl
theorem calls63 (o1 : Option Addr) (x2 : Int) (K : ByteArray → World → Prop) (w : World) (h : N63 o1 x2 K w) : Calls Tryz.prog 63 #[(.pointer o1), (.int .i64 x2)] w fun en w' => ∃ (s13 : ByteArray), en = .returned (.string s13) ∧ K s13 w' :=
 have e : (fun en w' => ExShs [(.one .str)] fun vs => en = .returned (tupled vs) ∧ ap [(.one .str)] K vs fun p => p w') = (fun (en : Ending) (w' : World) => ∃ (s13 : ByteArray), en = .returned (.string s13) ∧ K s13 w') := by kernel_rfl
 e ▸ fn_sound tabOk mixed Tryz.func63 (by kernel_rfl : Tryz.f63.body = some code63) ann63 [(.pointer o1), (.int .i64 x2)] [(.one .str)] K w (by kernel_rfl) ((wp63 o1 x2 K w).symm ▸ h)
end Go.Proofs.YtgggbmikmmljcaaGreat
