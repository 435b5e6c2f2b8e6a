/- A part of the proof: plain forms of functions and laws about them. -/
import Derived.Test.YtgggbmikmmljcaaGreatAlltF
import Derived.Deep.Slices
import Derived.OpenShut
import Derived.Lib.SmallJoins
import Derived.SizedLaws
namespace Go.Proofs.YtgggbmikmmljcaaGreat
open Go Go.V Go.Proofs
section
variable {k f : Nat} {S S' : CS}
def Fin (t : Th) : Prop := t.out = 0 ∧ (t.swept = true ∨ t.holds = false)
def okN (S : CS) (m : Msg) : Prop := ((isK m.kind kAsk || isK m.kind kMore) = true → m.frm ≠ (S.th m.ent).owner) ∧ ((isK m.kind kGive || isK m.kind kPass) = true → m.to ≠ (S.th m.ent).owner) ∧ (isK m.kind kGone = true → Fin (S.th m.ent))
structure AI (S : CS) : Prop where
  calls : S.calls = []
  on : ∀ x, S.isT x → (S.th x).on = [] ∧ (S.th x).expired = false
  pr : ∀ x, S.isT x → S.prox ((S.th x).owner, x) = 0
  fly : ∀ m ∈ S.fly, okN S m
structure Stp (S S' : CS) : Prop where
  calls : S'.calls = []
  len : S'.things.length = S.things.length
  th : ∀ x, S.isT x → (S'.th x).owner = (S.th x).owner ∧ (S'.th x).on = [] ∧ (S'.th x).expired = false ∧ (Fin (S.th x) → Fin (S'.th x))
  pr : ∀ x, S.isT x → S'.prox ((S.th x).owner, x) = 0
  fly : ∀ m ∈ S'.fly, m ∈ S.fly ∨ (S.isT m.ent ∧ okN S m)
theorem okN.stp (h : Stp S S') {m : Msg} (hx : S.isT m.ent) (o : okN S m) : okN S' m := by
  obtain ⟨e1, _, _, e4⟩ := h.th m.ent hx
  exact ⟨fun a => by rw [e1]; exact o.1 a, fun a => by rw [e1]; exact o.2.1 a, fun a => e4 (o.2.2 a)⟩
theorem AI.stp (h : AI S) (hT : ∀ m ∈ S.fly, S.isT m.ent) (s : Stp S S') : AI S' where
  calls := s.calls
  on := fun x hx => by
    have hx' : S.isT x := ⟨hx.1, by rw [← s.len]; exact hx.2⟩
    obtain ⟨_, e2, e3, _⟩ := s.th x hx'; exact ⟨e2, e3⟩
  pr := fun x hx => by
    have hx' : S.isT x := ⟨hx.1, by rw [← s.len]; exact hx.2⟩
    rw [(s.th x hx').1]; exact s.pr x hx'
  fly := fun m hm => by
    rcases s.fly m hm with h1 | ⟨h1, h2⟩
    · exact (h.fly m h1).stp s (hT m h1)
    · exact h2.stp s h1
theorem AI.thS (h : AI S) {x : Int} (hx : S.isT x) : (S.th x).owner = (S.th x).owner ∧ (S.th x).on = [] ∧ (S.th x).expired = false ∧ (Fin (S.th x) → Fin (S.th x)) := ⟨rfl, (h.on x hx).1, (h.on x hx).2, id⟩
theorem Stp.refl (h : AI S) : Stp S S := ⟨h.calls, rfl, fun _ hx => h.thS hx, h.pr, fun _ hm => .inl hm⟩
theorem AI.move (h : AI S) {q : Int × Int} (hq : ∀ x, S.isT x → ((S.th x).owner, x) ≠ q) (ec : S'.calls = S.calls) (et : S'.things = S.things) (ep : ∀ p, p ≠ q → S'.prox p = S.prox p) (ef : ∀ m ∈ S'.fly, m ∈ S.fly ∨ (S.isT m.ent ∧ okN S m)) : Stp S S' := by
  have hth : ∀ y, S'.th y = S.th y := fun y => by simp [CS.th, et]
  exact ⟨ec.trans h.calls, by rw [et], fun x hx => by rw [hth]; exact h.thS hx, fun x hx => (ep _ (hq x hx)).trans (h.pr x hx), ef⟩
theorem ownNe {q : Int × Int} (h : q.1 ≠ (S.th q.2).owner) : ∀ x, S.isT x → ((S.th x).owner, x) ≠ q := fun x _ e => by subst e; exact h rfl
theorem upd_ne {p q : Int × Int} {g : Int × Int → Int} {v : Int} (h : p ≠ q) : upd g q v p = g p := if_neg h
theorem kg_a : isK kGive kAsk = false := by rw [isK_dec']; decide
theorem kg_m : isK kGive kMore = false := by rw [isK_dec']; decide
theorem kp_a : isK kPass kAsk = false := by rw [isK_dec']; decide
theorem kp_m : isK kPass kMore = false := by rw [isK_dec']; decide
theorem kb_a : isK kBack kAsk = false := by rw [isK_dec']; decide
theorem kb_m : isK kBack kMore = false := by rw [isK_dec']; decide
theorem kb_g : isK kBack kGive = false := by rw [isK_dec']; decide
theorem kb_p : isK kBack kPass = false := by rw [isK_dec']; decide
theorem okN_ask {frm to x n : Int} (h : frm ≠ (S.th x).owner) : okN S ⟨frm, to, kAsk, x, n⟩ := ⟨fun _ => h, fun a => by simp [kd_ag, kd_ap] at a, fun a => by simp [kd_ao] at a⟩
theorem okN_more {frm to x n : Int} (h : frm ≠ (S.th x).owner) : okN S ⟨frm, to, kMore, x, n⟩ := ⟨fun _ => h, fun a => by simp [kd_mg, kd_mp] at a, fun a => by simp [kd_mo] at a⟩
theorem okN_give {frm to x n : Int} (h : to ≠ (S.th x).owner) : okN S ⟨frm, to, kGive, x, n⟩ := ⟨fun a => by simp [kg_a, kg_m] at a, fun _ => h, fun a => by simp [kd_go] at a⟩
theorem okN_pass {frm to x n : Int} (h : to ≠ (S.th x).owner) : okN S ⟨frm, to, kPass, x, n⟩ := ⟨fun a => by simp [kp_a, kp_m] at a, fun _ => h, fun a => by simp [kd_po] at a⟩
theorem okN_back {frm to x n : Int} : okN S ⟨frm, to, kBack, x, n⟩ := ⟨fun a => by simp [kb_a, kb_m] at a, fun a => by simp [kb_g, kb_p] at a, fun a => by simp [kd_bo] at a⟩
theorem okN_gone {frm to x n : Int} (h : Fin (S.th x)) : okN S ⟨frm, to, kGone, x, n⟩ := ⟨fun a => by simp [kd_oa, kd_om] at a, fun a => by simp [kd_og, kd_op] at a, fun _ => h⟩
theorem okN.th {m : Msg} (e : S'.things = S.things) (h : okN S m) : okN S' m := by
  have hth : ∀ y, S'.th y = S.th y := fun y => by simp [CS.th, e]
  unfold okN at *; rw [hth]; exact h
theorem mem_snd {m m0 : Msg} {l : List Msg} (h : m ∈ l ++ [m0]) : m ∈ l ∨ m = m0 := by
  rw [List.mem_append, List.mem_singleton] at h; exact h
theorem AI.half (h : AI S) {q : Int × Int} (to : Int) (hq : q.1 ≠ (S.th q.2).owner) (h2 : S.isT q.2) : Stp S (S.half q to) :=
  h.move (q := q) (ownNe hq) rfl rfl (fun p hp => upd_ne hp) fun m hm => by
    rcases mem_snd hm with hm | rfl
    · exact .inl hm
    · refine .inr ⟨h2, ?_⟩
      show okN S ⟨q.1, to, if to = (S.th q.2).owner then kBack else kPass, q.2, S.prox q / 2⟩
      split
      · exact okN_back
      · exact okN_pass ‹_›
theorem AI.letM (h : AI S) {q : Int × Int} (hq : q.1 ≠ (S.th q.2).owner) (h2 : S.isT q.2) : Stp S (S.letM q) :=
  h.move (q := q) (ownNe hq) rfl rfl (fun p hp => upd_ne hp) fun m hm => by
    rcases mem_snd hm with hm | rfl
    · exact .inl hm
    · exact .inr ⟨h2, okN_back⟩
theorem AI.setTh (h : AI S) {x : Int} (hx : S.isT x) {t' : Th} (h1 : t'.owner = (S.th x).owner) (h2 : t'.on = []) (h3 : t'.expired = false) (h4 : Fin (S.th x) → Fin t') (ec : S'.calls = []) (et : S'.things = (S.setTh (x - 1).toNat t').things) (ep : S'.prox = S.prox) (ef : ∀ m ∈ S'.fly, m ∈ S.fly ∨ (S.isT m.ent ∧ okN S m)) : Stp S S' := by
  have hth : ∀ y, S'.th y = (S.setTh (x - 1).toNat t').th y := fun y => by simp [CS.th, et]
  refine ⟨ec, by rw [et]; simp [CS.setTh], fun y hy => ?_, fun y hy => by rw [ep]; exact h.pr y hy, ef⟩
  rw [hth, CS.th_setTh]
  have h1' := hx.1; have h2' := hx.2; have h3' := hy.1
  by_cases e : y = x
  · subst e; rw [if_pos ⟨rfl, by omega⟩]; exact ⟨h1, h2, h3, h4⟩
  · rw [if_neg (by omega)]; exact h.thS hy
theorem AI.dead (h : AI S) {i : Nat} {x : Int} (hx : S.isT x) (hf : Fin (S.th x)) : ¬ Alive S i (S.th x) := fun a => by
  obtain ⟨a1, a2⟩ := a
  obtain ⟨f1, f2⟩ := hf
  have f2 : (S.th x).holds = false := by
    rcases f2 with f2 | f2
    · rw [a1] at f2; cases f2
    · exact f2
  rcases a2 with a2 | a2 | a2 | ⟨t, ht, _, hm⟩
  · rw [(h.on x hx).2] at a2; cases a2
  · rw [f2] at a2; cases a2
  · omega
  · obtain ⟨y, hy, rfl⟩ := mem_th ht
    rw [(h.on y hy).1] at hm; cases hm
theorem AI.give (h : AI S) {to : Int} {kind : ByteArray} {x : Int} (hx : S.isT x) (hto : to ≠ (S.th x).owner) (hk : kind = kGive ∨ kind = kPass) {i : Nat} (ha : Alive S i (S.th x)) : Stp S (S.give to kind x (S.th x)) :=
  h.setTh hx (t' := { S.th x with out := (S.th x).out + 65536, heard := S.clocks.getD (S.th x).owner.toNat 0 }) rfl (h.on x hx).1 (h.on x hx).2 (fun hf => absurd ha (h.dead hx hf)) h.calls rfl rfl fun m hm => by
    rcases mem_snd hm with hm | rfl
    · exact .inl hm
    · refine .inr ⟨hx, ?_⟩
      rcases hk with rfl | rfl
      · exact okN_give hto
      · exact okN_pass hto
theorem Stp.as {S1 : CS} (s : Stp S S1) (ec : S'.calls = S1.calls) (et : S'.things = S1.things) (ep : S'.prox = S1.prox) (ef : S'.fly = S1.fly) : Stp S S' := by
  have hth : ∀ y, S'.th y = S1.th y := fun y => by simp [CS.th, et]
  exact ⟨by rw [ec]; exact s.calls, by rw [et]; exact s.len, fun x hx => by rw [hth]; exact s.th x hx, fun x hx => by rw [ep]; exact s.pr x hx, fun m hm => s.fly m (ef ▸ hm)⟩
theorem Stp.trans {S1 : CS} (s : Stp S S1) (s2 : Stp S1 S') (hok : ∀ m, S.isT m.ent → okN S1 m → okN S m) : Stp S S' := by
  have hT : ∀ x, S.isT x → S1.isT x := fun x hx => ⟨hx.1, by rw [s.len]; exact hx.2⟩
  have hT' : ∀ x, S1.isT x → S.isT x := fun x hx => ⟨hx.1, by rw [← s.len]; exact hx.2⟩
  refine ⟨s2.calls, s2.len.trans s.len, fun x hx => ?_, fun x hx => ?_, fun m hm => ?_⟩
  · obtain ⟨a1, _, _, a4⟩ := s.th x hx
    obtain ⟨b1, b2, b3, b4⟩ := s2.th x (hT x hx)
    exact ⟨b1.trans a1, b2, b3, fun h => b4 (a4 h)⟩
  · rw [← (s.th x hx).1]; exact s2.pr x (hT x hx)
  · rcases s2.fly m hm with h | ⟨h1, h2⟩
    · exact s.fly m h
    · exact .inr ⟨hT' _ h1, hok m (hT' _ h1) h2⟩
theorem Stp.trans' {S1 : CS} (s : Stp S S1) (s2 : Stp S1 S') (et : S1.things = S.things) : Stp S S' := s.trans s2 fun _ _ h => okN.th et.symm h
theorem AI.passes {q : Int × Int} (l : List Int) : ∀ {S : CS}, AI S → (∀ m ∈ S.fly, S.isT m.ent) → q.1 ≠ (S.th q.2).owner → S.isT q.2 → Stp S (CS.passes q l S).1 ∧ (CS.passes q l S).1.things = S.things := by
  induction l with
  | nil => intro S h _ _ _; exact ⟨Stp.refl h, rfl⟩
  | cons to l ih =>
    intro S h hT hq h2
    unfold CS.passes
    split
    · have s := h.half to hq h2
      have hT2 : ∀ m ∈ (S.half q to).fly, (S.half q to).isT m.ent := fun m hm => by
        rcases mem_snd hm with hm | rfl
        · exact hT m hm
        · exact h2
      obtain ⟨r1, r2⟩ := ih (h.stp hT s) hT2 hq h2
      exact ⟨s.trans' r1 rfl, r2⟩
    · exact ⟨Stp.refl h, rfl⟩
theorem AI.again (h : AI S) (hT : ∀ m ∈ S.fly, S.isT m.ent) {q : Int × Int} (hq : q.1 ≠ (S.th q.2).owner) (h2 : S.isT q.2) : Stp S (S.again q) := by
  obtain ⟨r1, r2⟩ := AI.passes (q := q) (S.waits q) h hT hq h2
  unfold CS.again
  generalize (CS.passes q (S.waits q) S).1 = P at *
  generalize (CS.passes q (S.waits q) S).2 = L at *
  split
  · exact r1.as rfl rfl rfl rfl
  · have e : ∀ y, P.th y = S.th y := fun y => by simp [CS.th, r2]
    refine ⟨r1.calls, r1.len, r1.th, r1.pr, fun m hm => ?_⟩
    rcases mem_snd hm with hm | rfl
    · exact r1.fly m hm
    · exact .inr ⟨h2, okN_more hq⟩
theorem Inv.flyT (h : Inv k f S) : ∀ m ∈ S.fly, S.isT m.ent := fun m hm => (h.fy m hm).1
theorem free_fin (I : Inv k f S) {x : Int} (hx : S.isT x) (h : Free (S.th x)) : Fin (S.th x) := ⟨free_out I hx h, by
  rcases h with h | ⟨_, h, _⟩
  · exact .inl h
  · exact .inr h⟩
theorem AI.loss (h : AI S) (I : Inv k f S) {d : Int} (hd : d ≠ 7) (a t : Int) : loss S d a t = 0 := by
  unfold Go.Proofs.YtgggbmikmmljcaaGreat.loss
  split
  · rfl
  · rename_i m hm
    rw [if_neg hd]
    split
    · rename_i hc
      split
      · have hmem : m ∈ S.fly := by
          unfold CS.msg? at hm; split at hm
          · exact List.mem_of_getElem? hm
          · cases hm
        have hF := (h.fly m hmem).2.2 hc.2
        have hx := I.flyT m hmem
        have h1 := I.pxle (m.to, m.ent)
        have h2 := I.px (m.to, m.ent); have h3 := I.flw m.ent; have h4 := I.df m.ent
        have h5 := outT_eq hx
        have h6 := hF.1
        simp only at h1; omega
      · rfl
    · rfl
theorem AI.del (h : AI S) (I : Inv k f S) {a e : Int} (p : DelOk S a e S') : AI S' := by
  rcases p with ⟨_, _, rfl⟩ | ⟨m, h0, hm, _, p⟩
  · exact h
  have hmem := List.mem_of_getElem? hm
  obtain ⟨hx, h1, h2, hn, hc⟩ := I.fy m hmem
  obtain ⟨o1, o2, o3⟩ := h.fly m hmem
  have tk : Stp S (S.take a.toNat) := ⟨h.calls, rfl, fun _ hx => h.thS hx, h.pr, fun m' hm' => .inl (List.mem_of_mem_eraseIdx hm')⟩
  have hT := h.stp I.flyT tk
  have IT := (I.take hm).1
  have fin : ∀ {S'}, Stp (S.take a.toNat) S' → AI S' := fun s => hT.stp IT.flyT s
  have hxT : (S.take a.toNat).isT m.ent := hx
  unfold TakeOk at p
  split at p
  · rename_i tA
    obtain ⟨s, hs, p⟩ := p
    split at p
    · rename_i hl; subst p
      exact fin (hT.give hxT (o1 tA) (.inl rfl) (hs.live hl).2.2)
    · rename_i hl; subst p
      have hF : Fin ((S.take a.toNat).th m.ent) := by
        rcases hs.not_live hxT (by simpa using hl) with h3 | h3
        · rw [(hT.on m.ent hxT).2] at h3; cases h3
        · exact free_fin IT hxT h3
      refine fin ⟨hT.calls, rfl, fun _ hx => hT.thS hx, hT.pr, fun m' hm' => ?_⟩
      rcases mem_snd hm' with hm' | rfl
      · exact .inl hm'
      · exact .inr ⟨hxT, okN_gone hF⟩
  have pay : ∀ (n : Int), m.to ≠ (S.th m.ent).owner → Stp (S.take a.toNat) ((S.take a.toNat).pay (m.to, m.ent) n) := fun n hne => hT.move (q := (m.to, m.ent)) (ownNe hne) rfl rfl (fun p hp => upd_ne hp) fun _ hm => .inl hm
  split at p
  · rename_i tG; subst p
    have hne := o2 (by rw [tG]; rfl)
    have s1 : Stp (S.take a.toNat) (((S.take a.toNat).unask (m.to, m.ent)).pay (m.to, m.ent) m.n) := (pay m.n hne).as rfl rfl rfl rfl
    have A1 := fin s1
    exact A1.stp IT.flyT (A1.again IT.flyT (q := (m.to, m.ent)) hne hxT)
  split at p
  · rename_i tP; subst p
    exact fin (pay m.n (o2 (by rw [tP]; simp)))
  split at p
  · subst p
    refine fin (hT.setTh hxT (t' := { (S.take a.toNat).th m.ent with out := ((S.take a.toNat).th m.ent).out - m.n }) rfl (hT.on _ hxT).1 (hT.on _ hxT).2 (fun hF => ⟨?_, hF.2⟩) hT.calls rfl rfl fun _ hm => .inl hm)
    have e1 : (S.th m.ent).out = 0 := hF.1
    have e2 := I.flB hmem
    have e3 := outT_eq hx
    show (S.th m.ent).out - m.n = 0
    omega
  split at p
  · split at p
    · rename_i he
      have : ((S.take a.toNat).th m.ent).expired = false := (hT.on _ hxT).2
      rw [this] at he; cases he
    · subst p
      exact fin (hT.setTh hxT (t' := { (S.take a.toNat).th m.ent with heard := (S.take a.toNat).clocks.getD ((S.take a.toNat).th m.ent).owner.toNat 0 }) rfl (hT.on _ hxT).1 (hT.on _ hxT).2 (fun hF => hF) hT.calls rfl rfl fun _ hm => .inl hm)
  split at p
  · subst p
    refine fin ⟨hT.calls, rfl, fun _ hx => hT.thS hx, fun x hx => ?_, fun _ hm => .inl hm⟩
    show upd (S.take a.toNat).prox (m.to, m.ent) 0 _ = 0
    unfold upd; split
    · rfl
    · exact hT.pr x hx
  · subst p; exact hT
theorem AI.make (h : AI S) (I : Inv k f S) {site : Int} : AI (S.make site) := by
  have hth : ∀ x, S.isT x → (S.make site).th x = S.th x := fun x hx => by
    have h1 := hx.1; have h2 := hx.2
    simp only [CS.th, CS.make, List.getD_eq_getElem?_getD]
    rw [List.getElem?_append_left (by omega)]
  have hnew : ∀ x, (S.make site).isT x → ¬ S.isT x → (S.make site).th x = ⟨site, true, 0, 0, false, false, []⟩ := fun x hx hn => by
    have h1 := hx.1; have h2 := hx.2
    simp only [CS.make, List.length_append, List.length_cons, List.length_nil] at h2
    have : x = S.things.length + 1 := by simp only [CS.isT] at hn; omega
    subst this
    simp only [CS.th, CS.make, List.getD_eq_getElem?_getD]
    rw [List.getElem?_append_right (by omega)]
    have e : ((S.things.length : Int) + 1 - 1).toNat - S.things.length = 0 := by omega
    rw [e]; rfl
  refine ⟨h.calls, fun x hx => ?_, fun x hx => ?_, fun m hm => ?_⟩
  · by_cases hx2 : S.isT x
    · rw [hth x hx2]; exact h.on x hx2
    · rw [hnew x hx hx2]; exact ⟨rfl, rfl⟩
  · by_cases hx2 : S.isT x
    · rw [hth x hx2]; exact h.pr x hx2
    · refine Decidable.byContradiction fun hne => hx2 (I.pxT _ hne).2
  · have := h.fly m hm
    unfold okN at *; rw [hth m.ent (I.flyT m hm)]; exact this
theorem AI.sw (h : AI S) (p : Sw S S') : Stp S S' := by
  have eq := p.eq
  refine ⟨by rw [eq]; exact h.calls, p.len, fun x hx => ?_, fun x hx => by rw [eq]; exact h.pr x hx, fun m hm => .inl (by rw [eq] at hm; exact hm)⟩
  have hx' : S'.isT x := ⟨hx.1, by rw [p.len]; exact hx.2⟩
  obtain ⟨e1, e2, e3, e4, e5⟩ := p.th _ _ _ (th_at hx) (th_at hx')
  refine ⟨e1, ?_, by rw [e4]; exact (h.on x hx).2, fun hF => ⟨by rw [e3]; exact hF.1, ?_⟩⟩
  · rcases e5 with ⟨_, e5⟩ | ⟨_, _, e5⟩
    · rw [e5]; exact (h.on x hx).1
    · exact e5
  · rcases e5 with ⟨e5, _⟩ | ⟨_, e5, _⟩
    · rw [e5, e2]; exact hF.2
    · exact .inl e5
theorem AI.sweep (h : AI S) {site : Int} {n : Nat} (p : SweepOk S site n S') : ∃ S1, SweptOk S site S1 n ∧ S' = { S1 with calls := [] } := by
  obtain ⟨S1, S2, ys, hs, hl, rfl, _, hy⟩ := p
  rw [h.calls] at hl hy
  cases hl
  refine ⟨S1, hs, ?_⟩
  have : ys = [] := List.eq_nil_iff_forall_not_mem.2 fun y hy2 => by have := hy y hy2; cases this
  rw [this]
theorem AI.drop (h : AI S) {a b e : Int} (p : DropOk S a b e S') : Stp S S' := by
  unfold DropOk at p
  split at p
  · rename_i hu
    obtain ⟨hx, -⟩ := usable_isT hu
    split at p
    · split at p
      · obtain ⟨-, rfl⟩ := p; exact Stp.refl h
      · obtain ⟨-, rfl⟩ := p
        split
        · exact h.setTh hx (t' := { S.th b with holds := false }) rfl (h.on b hx).1 (h.on b hx).2 (fun hF => ⟨hF.1, .inr rfl⟩) h.calls rfl rfl fun _ hm => .inl hm
        · exact h.letM (q := (a, b)) ‹_› hx
    · obtain ⟨-, rfl⟩ := p; exact Stp.refl h
  · obtain ⟨-, rfl⟩ := p; exact Stp.refl h
theorem AI.more (h : AI S) (ec : S'.calls = S.calls) (et : S'.things = S.things) (ep : S'.prox = S.prox) (ef : ∀ m ∈ S'.fly, m ∈ S.fly ∨ (S.isT m.ent ∧ okN S m)) : Stp S S' := by
  have hth : ∀ y, S'.th y = S.th y := fun y => by simp [CS.th, et]
  exact ⟨ec.trans h.calls, by rw [et], fun x hx => by rw [hth]; exact h.thS hx, fun x hx => by rw [ep]; exact h.pr x hx, ef⟩
theorem AI.pass (h : AI S) {a b c : Int} (p : PassOk S a b c S') : Stp S S' := by
  unfold PassOk at p
  split at p
  · rename_i hu
    obtain ⟨hx, -⟩ := usable_isT hu
    split at p
    · rename_i ho
      obtain ⟨s, h1, rfl⟩ := p
      split
      · rename_i hc
        exact h.give hx (by rw [← ho]; exact hc.2) (.inr rfl) (h1.live hc.1).2.2
      · exact Stp.refl h
    · rename_i ho
      subst p
      split
      · exact Stp.refl h
      · split
        · exact h.half (q := (a, c)) b ho hx
        · split
          · exact h.more rfl rfl rfl fun _ hm => .inl hm
          · refine h.more rfl rfl rfl fun m hm => ?_
            rcases mem_snd hm with hm | rfl
            · exact .inl hm
            · exact .inr ⟨hx, okN_more ho⟩
  · subst p; exact Stp.refl h
theorem AI.ask (h : AI S) (a b : Int) : Stp S (S.askS a b) := by
  unfold CS.askS
  split
  · rename_i hc
    obtain ⟨hx, -⟩ := usable_isT hc.1
    refine h.more rfl rfl rfl fun m hm => ?_
    rcases mem_snd hm with hm | rfl
    · exact .inl hm
    · exact .inr ⟨hx, okN_ask hc.2.2.1⟩
  · exact Stp.refl h
theorem AI.play (h : AI S) (I : Inv k f S) {d a b c : Int} (p : PlayOk S d a b c S') (h4 : d ≠ 4) (h7 : d ≠ 7) (h8 : d ≠ 8) : AI S' := by
  unfold PlayOk at p
  have fin : Stp S S' → AI S' := fun s => h.stp I.flyT s
  split at p
  · subst p
    unfold CS.makeE
    split
    · exact h.make I
    · exact h
  split at p
  · subst p; exact fin (h.ask a b)
  split at p
  · exact fin (h.pass p)
  split at p
  · obtain ⟨e, p⟩ := p; exact fin (h.drop p)
  split at p
  · rcases p with rfl | ⟨hx, ys, zs, rfl, _, h2, _, h5⟩
    · exact h
    · have e1 : ys = [] := List.eq_nil_iff_forall_not_mem.2 fun y hy => by have := h2 y hy; rw [(h.on a hx).1] at this; cases this
      have e2 : zs = [] := List.eq_nil_iff_forall_not_mem.2 fun y hy => by have := h5 y hy; rw [h.calls] at this; cases this
      subst e1; subst e2
      exact fin (h.setTh hx (t' := { S.th a with on := [] }) rfl rfl (h.on a hx).2 (fun hF => hF) rfl rfl rfl fun _ hm => .inl hm)
  split at p
  · obtain ⟨e, p⟩ := p; exact h.del I p
  split at p
  · rcases p with ⟨_, rfl⟩ | ⟨_, n, p⟩
    · exact h
    · obtain ⟨S1, h1, rfl⟩ := h.sweep p
      have A1 := h.stp I.flyT (h.sw h1.1)
      exact ⟨rfl, A1.on, A1.pr, A1.fly⟩
  · subst p; exact h
theorem AI.zero {x y z : Int} : AI (CS.zero x y z) := ⟨rfl, fun x hx => by have := hx.1; have := hx.2; simp [CS.zero] at this; omega, fun _ _ => rfl, fun m hm => by simp [CS.zero] at hm⟩
theorem AI.dropH (h : AI S) {s x e : Int} (hs : S.isS s) (hh : S.holdsE s x = true) (p : DropOk S s x e S') : e = 0 ∧ S'.holdsE s x = false ∧ ∀ s' x', S.holdsE s' x' = false → S'.holdsE s' x' = false := by
  have hx : S.isT x := by
    unfold CS.holdsE at hh; rw [Bool.and_eq_true] at hh; exact of_decide_eq_true hh.1
  have hu : usableE S x [s] = 0 := by
    unfold usableE
    rw [if_pos (by simp; exact hs), if_pos (show 1 ≤ x ∧ x ≤ (S.things.length : Int) from hx)]
  have hn : S.heldE s x = false := by
    rw [Bool.eq_false_iff]; intro ha
    unfold CS.heldE at ha
    rw [List.any_eq_true] at ha
    obtain ⟨t, ht, ht2⟩ := ha
    obtain ⟨y, hy, rfl⟩ := mem_th ht
    rw [(h.on y hy).1] at ht2; simp at ht2
  unfold DropOk at p
  rw [if_pos hu, if_pos hh, if_neg (by rw [hn]; simp)] at p
  obtain ⟨rfl, rfl⟩ := p
  refine ⟨rfl, ?_⟩
  have h1' := hx.1; have h2' := hx.2
  split
  · rename_i ho
    have hT : ∀ y, (S.setTh (x - 1).toNat { S.th x with holds := false }).isT y ↔ S.isT y := fun y => by simp [CS.isT, CS.setTh]
    have key : ∀ s' x', S.holdsE s' x' = false ∨ (s' = s ∧ x' = x) → (S.setTh (x - 1).toNat { S.th x with holds := false }).holdsE s' x' = false := by
      intro s' x' hor
      unfold CS.holdsE at hor ⊢
      rw [CS.th_setTh]
      by_cases hx' : S.isT x'
      · rw [decide_eq_true hx'] at hor
        rw [decide_eq_true ((hT x').2 hx')]
        simp only [Bool.true_and] at hor ⊢
        have h3' := hx'.1
        by_cases e : x' = x
        · subst e
          rw [if_pos (show (x' - 1).toNat = (x' - 1).toNat ∧ (x' - 1).toNat < S.things.length from ⟨rfl, by omega⟩)]
          show (if (S.th x').owner = s' then false else decide (S.prox (s', x') > 0)) = false
          rcases hor with hor | ⟨rfl, _⟩
          · split
            · rfl
            · rename_i hne; rw [if_neg hne] at hor; exact hor
          · rw [if_pos ho.symm]
        · rw [if_neg (show ¬ ((x' - 1).toNat = (x - 1).toNat ∧ (x - 1).toNat < S.things.length) by omega)]
          rcases hor with hor | ⟨_, h⟩
          · exact hor
          · exact absurd h e
      · rw [decide_eq_false (fun hh => hx' ((hT x').1 hh))]; rfl
    exact ⟨key s x (.inr ⟨rfl, rfl⟩), fun s' x' hf => key s' x' (.inl hf)⟩
  · rename_i ho
    have key : ∀ s' x', S.holdsE s' x' = false ∨ (s' = s ∧ x' = x) → (S.letM (s, x)).holdsE s' x' = false := by
      intro s' x' hor
      show (decide (S.isT x') && (if (S.th x').owner = s' then (S.th x').holds else decide (upd S.prox (s, x) 0 (s', x') > 0))) = false
      unfold CS.holdsE at hor
      by_cases hx' : S.isT x'
      · rw [decide_eq_true hx'] at hor ⊢
        simp only [Bool.true_and] at hor ⊢
        split
        · rename_i h1
          rcases hor with hor | ⟨rfl, rfl⟩
          · rw [if_pos h1] at hor; exact hor
          · exact absurd h1.symm ho
        · rename_i h1
          unfold upd; split
          · rfl
          · rename_i h2
            rcases hor with hor | ⟨rfl, rfl⟩
            · rw [if_neg h1] at hor; exact hor
            · exact absurd rfl h2
      · rw [decide_eq_false hx']; rfl
    exact ⟨key s x (.inr ⟨rfl, rfl⟩), fun s' x' hf => key s' x' (.inl hf)⟩
structure QD (S : CS) : Prop where
  calls : S.calls = []
  th : ∀ x, S.isT x → (S.th x).on = [] ∧ (S.th x).expired = false ∧ (S.th x).holds = false ∧ (S.th x).out = 0
theorem AI.qd (h : AI S) (I : Inv k f S) (hf : S.fly = []) (hd : ∀ t, S.dif t = 0) (hh : ∀ s x, S.isS s → S.isT x → S.holdsE s x = false) : QD S := by
  refine ⟨h.calls, fun x hx => ⟨(h.on x hx).1, (h.on x hx).2, ?_, ?_⟩⟩
  · have := hh _ x (I.own x hx) hx
    unfold CS.holdsE at this
    rw [decide_eq_true hx, if_pos rfl] at this; exact this
  · have h1 := hd x
    unfold CS.dif at h1
    have h2 : px S.prox S.clocks.length x = 0 := px_zero fun s h0 h1 => by
      by_cases e : (S.th x).owner = s
      · rw [← e]; exact h.pr x hx
      · have := hh s x ⟨h0, h1⟩ hx
        unfold CS.holdsE at this
        rw [decide_eq_true hx, if_neg e, Bool.true_and] at this
        have := of_decide_eq_false this
        have := I.px (s, x); omega
    have h3 : Go.Proofs.YtgggbmikmmljcaaGreat.flw S.fly x = 0 := by rw [hf]; rfl
    rw [outT_eq hx] at h1; omega
theorem QD.dead (h : QD S) {x : Int} {i : Nat} (hx : S.isT x) : ¬ Alive S i (S.th x) := fun a => by
  obtain ⟨a1, a2⟩ := a
  obtain ⟨b1, b2, b3, b4⟩ := h.th x hx
  rcases a2 with a2 | a2 | a2 | ⟨t, ht, _, hm⟩
  · rw [b2] at a2; cases a2
  · rw [b3] at a2; cases a2
  · omega
  · obtain ⟨y, hy, rfl⟩ := mem_th ht
    rw [(h.th y hy).1] at hm; cases hm
theorem QD.state (h : QD S) {x : Int} (hx : S.isT x) {s : ByteArray} (hs : StateOk S x s) : isK s kDead = true := by
  rcases hs with ⟨hn, _⟩ | ⟨_, ⟨he, _⟩ | ⟨_, rfl, _⟩ | ⟨_, _, ha⟩⟩
  · exact absurd hx hn
  · rw [(h.th x hx).2.1] at he; cases he
  · exact isK_refl _
  · exact absurd ha (h.dead hx)
theorem QD.sweep (h : QD S) {site : Int} {n : Nat} (p : SweepOk S site n S') : QD S' ∧ S'.things.length = S.things.length ∧ S'.clocks = S.clocks ∧ (∀ (i : Nat) (t : Th), S'.things[i]? = some t → t.owner = site → t.swept = true) ∧ (n = 0 ∨ ∃ (i : Nat) (t : Th), S.things[i]? = some t ∧ t.owner = site ∧ t.swept = false) := by
  obtain ⟨S1, S2, ys, ⟨hw, ⟨D, hD, hall⟩, hn⟩, hl, rfl, _, hy⟩ := p
  rw [h.calls] at hl hy
  cases hl
  have : ys = [] := List.eq_nil_iff_forall_not_mem.2 fun y hy2 => by have := hy y hy2; cases this
  subst this
  have hth : ∀ x, S1.isT x → (S1.th x).on = [] ∧ (S1.th x).expired = false ∧ (S1.th x).holds = false ∧ (S1.th x).out = 0 := fun x hx' => by
    have hx : S.isT x := ⟨hx'.1, by rw [← hw.len]; exact hx'.2⟩
    obtain ⟨e1, e2, e3, e4, e5⟩ := hw.th _ _ _ (th_at hx) (th_at hx')
    obtain ⟨b1, b2, b3, b4⟩ := h.th x hx
    refine ⟨?_, by rw [e4]; exact b2, by rw [e2]; exact b3, by rw [e3]; exact b4⟩
    rcases e5 with ⟨_, e5⟩ | ⟨_, _, e5⟩
    · rw [e5]; exact b1
    · exact e5
  have Q1 : QD { S1 with calls := [] } := ⟨rfl, hth⟩
  refine ⟨Q1, hw.len, by show S1.clocks = _; rw [hw.eq], fun i t ht ho => hall i t ht ho ?_, hn⟩
  have hil := (List.getElem?_eq_some_iff.1 ht).1
  have hil : i < S1.things.length := hil
  have hDl := hD.len
  have hx : S1.isT ((i : Int) + 1) := ⟨by omega, by omega⟩
  have e1 : S1.th ((i : Int) + 1) = t := by
    have := th_at hx
    rw [show ((i : Int) + 1 - 1).toNat = i by omega] at this
    exact (Option.some.inj (this.symm.trans ht))
  have e2 : D[i + 1]? = some (D[i + 1]'(by omega)) := List.getElem?_eq_getElem (by omega)
  cases hb : D[i + 1]'(by omega) with
  | true => rw [e2, hb]
  | false =>
    rw [hb] at e2
    have ha := hD.alive i t ht e2
    rw [← e1] at ha
    exact absurd ha (QD.dead (S := S1) ⟨by have := hw.eq; rw [this]; exact h.calls, hth⟩ hx)
end
end Go.Proofs.YtgggbmikmmljcaaGreat

namespace Go.Proofs.YtgggbmikmmljcaaGreat
open Go Go.V Go.Proofs
open Go.RowKit (Below)
/-! manystrand/manystrandlaw27.begun -/
def N14 (x1 : Int) (x2 : Int) (x3 : Int) (a4 : Option Addr) (l4 : Nat) (_c4 : Nat) (K : Option Addr → Option Addr → Bool → World → Prop) (w : World) : Prop :=
 Calls Tryz.prog 5 #[(.int .i64 x1), (.int .i64 x2), (.int .i64 x3)] w fun e8 w7 =>
 ∃ (o5 : Option Addr), ∃ (x6 : Int), e8 = .returned (.tuple #[(.pointer o5), (.int .i64 x6)]) ∧
 (Calls Tryz.prog 7 #[(.int .i64 x1), (.int .i64 x2), (.int .i64 x3)] w7 fun e12 w11 =>
 ∃ (o9 : Option Addr), ∃ (x10 : Int), e12 = .returned (.tuple #[(.pointer o9), (.int .i64 x10)]) ∧
 (BoolK ((x6 : Int) != 0)
 (K none none false w11)
 (BoolK ((x10 : Int) != 0)
 (K none none false w11)
 (BoolK o5.isNone
 (K none none false w11)
 (BoolK (decide (((l4 : Nat) : Int) > 300))
 (K none none false w11)
 (∃ (I13 : Int → World → Prop) (μ14 : Int → World → Nat),
 (I13 0 w11 ∧ True) ∧
 ∀ (w15 : World) (x16 : Int), I13 x16 w15 →
 BoolK (decide ((x16 : Int) < (l4 : Nat)))
 ((0 ≤ (x16 : Int) ∧ (x16 : Int) < (l4 : Nat)) ∧
 AddrK a4 fun b17 =>
 ∃ (x18 : Int), w15.cell? ((b17.add ((x16 : Int).toNat * 4)).add 0) = some (.int .i64 x18) ∧
 (∃ (x19 : Int), w15.cell? ((b17.add ((x16 : Int).toNat * 4)).add 1) = some (.int .i64 x19) ∧
 (∃ (x20 : Int), w15.cell? ((b17.add ((x16 : Int).toNat * 4)).add 2) = some (.int .i64 x20) ∧
 (∃ (x21 : Int), w15.cell? ((b17.add ((x16 : Int).toNat * 4)).add 3) = some (.int .i64 x21) ∧
 (AllocK w15 (#[.int .i64 0, .int .i64 0, .int .i64 0, .int .i64 0]) 33 fun b22 w23 =>
 SetK w23 (b22.add 0) (.int .i64 x18) fun w24 =>
 SetK w24 (b22.add 1) (.int .i64 x19) fun w25 =>
 SetK w25 (b22.add 2) (.int .i64 x20) fun w26 =>
 SetK w26 (b22.add 3) (.int .i64 x21) fun w27 =>
 ∃ (x28 : Int), w27.cell? (b22.add 0) = some (.int .i64 x28) ∧
 (∃ (x29 : Int), w27.cell? (b22.add 1) = some (.int .i64 x29) ∧
 (∃ (x30 : Int), w27.cell? (b22.add 2) = some (.int .i64 x30) ∧
 (∃ (x31 : Int), w27.cell? (b22.add 3) = some (.int .i64 x31) ∧
 (Calls Tryz.prog 10 #[(.pointer o5), (.pointer o9), (.agg #[(.int .i64 x28), (.int .i64 x29), (.int .i64 x30), (.int .i64 x31)])] w27 fun e34 w33 =>
 ∃ (p32 : Bool), e34 = .returned (.bool p32) ∧
 (I13 (IntKind.wrap .i64 (x16 + 1)) w33 ∧ μ14 (IntKind.wrap .i64 (x16 + 1)) w33 < μ14 x16 w15))))))))))
 (K o5 o9 true w15)))))))
def ann14 : Ann := (.two .nil (.two .nil (.two .nil (.two (.two .nil (.two (.two .nil .nil) .nil)) (.two (.two .nil (.one (.loop [(48, (.one (.int .i64)))] [11, 13, 46, 47] (.two .nil (.two (.two .nil .nil) (.two (.one (.two .nil .nil)) .nil)))))) (.two .nil .nil))))))
noncomputable def code14 : Code := match Tryz.f14.body with | some c => c | none => .skip
theorem wp14 (x1 : Int) (x2 : Int) (x3 : Int) (a4 : Option Addr) (l4 : Nat) (c4 : Nat) (K : Option Addr → Option Addr → Bool → World → Prop) (w : World) : WP Tryz.prog tab code14 ann14 (fnQ tab Tryz.f14.results.toList [(.one .ptr), (.one .ptr), (.one .bool)] K) (argE 0 [(.int .i64 x1), (.int .i64 x2), (.int .i64 x3), (.slice a4 l4 c4)]) w = N14 x1 x2 x3 a4 l4 c4 K w := by kernel_rfl
theorem calls14 (x1 : Int) (x2 : Int) (x3 : Int) (a4 : Option Addr) (l4 : Nat) (c4 : Nat) (K : Option Addr → Option Addr → Bool → World → Prop) (w : World) (h : N14 x1 x2 x3 a4 l4 c4 K w) : Calls Tryz.prog 14 #[(.int .i64 x1), (.int .i64 x2), (.int .i64 x3), (.slice a4 l4 c4)] w fun en w' => ∃ (o35 : Option Addr), ∃ (o36 : Option Addr), ∃ (p37 : Bool), en = .returned (.tuple #[(.pointer o35), (.pointer o36), (.bool p37)]) ∧ K o35 o36 p37 w' :=
 have e : (fun en w' => ExShs [(.one .ptr), (.one .ptr), (.one .bool)] fun vs => en = .returned (tupled vs) ∧ ap [(.one .ptr), (.one .ptr), (.one .bool)] K vs fun p => p w') = (fun (en : Ending) (w' : World) => ∃ (o35 : Option Addr), ∃ (o36 : Option Addr), ∃ (p37 : Bool), en = .returned (.tuple #[(.pointer o35), (.pointer o36), (.bool p37)]) ∧ K o35 o36 p37 w') := by kernel_rfl
 e ▸ fn_sound tabOk mixed Tryz.func14 (by kernel_rfl : Tryz.f14.body = some code14) ann14 [(.int .i64 x1), (.int .i64 x2), (.int .i64 x3), (.slice a4 l4 c4)] [(.one .ptr), (.one .ptr), (.one .bool)] K w (by kernel_rfl) ((wp14 x1 x2 x3 a4 l4 c4 K w).symm ▸ h)
end Go.Proofs.YtgggbmikmmljcaaGreat

namespace Go.Proofs.YtgggbmikmmljcaaGreat
open Go Go.V Go.Proofs
open Go.RowKit (Below)
section
variable {w w' w0 w1 w2 : World} {own own' : OwnM Role} {r r' : Raw} {S S' : CS} {κ κ' : Ka RK} {N N1 : Prm} {q : Rb} {k f : Nat}
theorem c14 (w : World) (x y z : Int) {a4 : Option Addr} {l4 : Nat} (c4 : Nat) {P : Int → Prop} (hA : RdA P w a4 l4) {Q : CS → Prop} (h0 : argsOk x y z → Q (CS.zero x y z))
    (hQ : ∀ {k f : Nat} {S S' : CS} {d a b c : Int}, Inv k f S → Q S → P d → PlayOk S d a b c S' → Q S') :
    Calls Tryz.prog 14 #[.int .i64 x, .int .i64 y, .int .i64 z, .slice a4 l4 c4] w fun en w' => ∃ o1 o2 p, en = .returned (.tuple #[.pointer o1, .pointer o2, .bool p]) ∧
      ((p = false ∧ Ext w w') ∨ (p = true ∧ ∃ (j : Nat) (own : OwnM Role) (r : Raw) (S : CS) (κ : Ka RK) (N : Prm) (q : Rb), j ≤ 300 ∧ LI w j own r S κ N q r.b w' ∧ Q S ∧ o1 = some ⟨r.b, 0, none⟩ ∧ o2 = some ⟨q.b, 0, none⟩)) := by
  refine calls14 _ _ _ _ _ _ (fun o1 o2 p w' => (p = false ∧ Ext w w') ∨ (p = true ∧ ∃ (j : Nat) (own : OwnM Role) (r : Raw) (S : CS) (κ : Ka RK) (N : Prm) (q : Rb), j ≤ 300 ∧ LI w j own r S κ N q r.b w' ∧ Q S ∧ o1 = some ⟨r.b, 0, none⟩ ∧ o2 = some ⟨q.b, 0, none⟩)) w ?_
  refine (c5 x y z).mono ?_
  rintro en w7 ⟨o, e, rfl, H⟩
  refine ⟨_, _, rfl, ?_⟩
  refine (c7 x y z).mono ?_
  rintro en w11 ⟨o9, e9, rfl, H2⟩
  refine ⟨_, _, rfl, ?_⟩
  rcases H with ⟨hn, rfl, rfl, rfl⟩ | ⟨hok, rfl, own0, r0, rfl, h7, f7⟩
  · rcases H2 with ⟨_, _, rfl, rfl⟩ | ⟨hok, _⟩
    · exact BoolK.mk (fun _ => .inl ⟨rfl, Ext.refl _⟩) (fun t => by simp at t)
    · exact absurd hok hn
  rcases H2 with ⟨hn, _⟩ | ⟨_, rfl, κ0, q, rfl, hR, fm⟩
  · exact absurd hok hn
  obtain ⟨J11, F11⟩ := Jt.start h7 f7 hR fm
  refine BoolK.mk (fun t => by simp at t) (fun _ => BoolK.mk (fun t => by simp at t) (fun _ => BoolK.mk (fun t => by simp at t) (fun _ => BoolK.mk (fun _ => .inl ⟨rfl, F11.toExt⟩) (fun tl => ?_))))
  have tl := of_decide_eq_false tl
  have L11 : LI w 0 own0 r0 (CS.zero x y z) κ0 (N0 x.toNat) q r0.b w11 := ⟨J11, Inv.zero' hok, Bd.zero, F11, rfl⟩
  generalize r0.b = rb at *
  refine ⟨fun i w' => ∃ (j : Nat) (own : OwnM Role) (r : Raw) (S : CS) (κ : Ka RK) (N : Prm), i = j ∧ j ≤ l4 ∧ LI w j own r S κ N q rb w' ∧ Q S, fun i _ => l4 - i.toNat,
    ⟨⟨0, own0, r0, _, κ0, _, rfl, Nat.zero_le _, L11, h0 hok⟩, trivial⟩, ?_⟩
  clear L11 J11 F11 hR fm h7 f7
  rintro w15 i ⟨j, own, r, S, κ, N, rfl, hj, LL, hq⟩
  have hrb := LL.rb
  obtain ⟨rb', cl, ca, th, fl, mp, ma, mg, mm, mw, ths, wts⟩ := r
  cases hrb
  refine BoolK.mk (fun t => ?_) (fun t => ?_)
  · have t := of_decide_eq_true t
    have hjl : j < l4 := by omega
    obtain ⟨b4, o4, e4, -, d, a, b, c, hP, g0, g1, g2, g3⟩ := (hA.fr LL.fr) j hjl
    refine ⟨⟨by omega, t⟩, adK e4 ⟨d, by rw [add_mk, add_mk, Int.toNat_natCast]; exact g0, a, by rw [add_mk, add_mk, Int.toNat_natCast]; exact g1, b, by rw [add_mk, add_mk, Int.toNat_natCast]; exact g2, c, by rw [add_mk, add_mk, Int.toNat_natCast]; exact g3, ?_⟩⟩
    refine box4 fun b22 w27 hb22 hB22 x27 => ?_
    have L27 := LL.ext x27
    refine ⟨d, bx4 hB22 rfl, a, bx4 hB22 rfl, b, bx4 hB22 rfl, c, bx4 hB22 rfl, ?_⟩
    refine (c10 L27.jt L27.inv L27.bd (by omega) (by omega) d a b c).mono ?_
    rintro en' w33 ⟨p32, rfl, PJ⟩
    obtain ⟨own', r', S', κ', N', L33, -, hp⟩ := L27.play (by omega) PJ
    refine ⟨_, rfl, ?_⟩
    rw [wrap_id (by omega) (by omega)]
    exact ⟨⟨j + 1, own', r', S', κ', N', by omega, by omega, L33, hQ L27.inv hq hP hp⟩, by show l4 - ((j : Int) + 1).toNat < l4 - (j : Int).toNat; omega⟩
  · have t := of_decide_eq_false t
    exact .inr ⟨rfl, j, own, _, S, κ, N, q, by omega, LL, hq, rfl, rfl⟩
end
end Go.Proofs.YtgggbmikmmljcaaGreat

namespace Go.Proofs.YtgggbmikmmljcaaGreat
open Go Go.V Go.Proofs
open Go.RowKit (Below)
/-! manystrand/manystrandlaw27.AllTaken -/
def N4 (x1 : Int) (a2 : Option Addr) (l2 : Nat) (_c2 : Nat) (K : Bool → World → Prop) (w : World) : Prop :=
 ∃ (I3 : Option Addr → Nat → Nat → Int → World → Prop) (μ4 : Option Addr → Nat → Nat → Int → World → Nat),
 (I3 none 0 0 0 w ∧ True) ∧
 ∀ (w5 : World) (a6 : Option Addr) (l6 : Nat) (c6 : Nat) (x7 : Int), I3 a6 l6 c6 x7 w5 →
 BoolK (decide ((x7 : Int) < (l2 : Nat)))
 ((0 ≤ (x7 : Int) ∧ (x7 : Int) < (l2 : Nat)) ∧
 AddrK a2 fun b8 =>
 ∃ (x9 : Int), w5.cell? ((b8.add ((x7 : Int).toNat * 4)).add 0) = some (.int .i64 x9) ∧
 (∃ (x10 : Int), w5.cell? ((b8.add ((x7 : Int).toNat * 4)).add 1) = some (.int .i64 x10) ∧
 (∃ (x11 : Int), w5.cell? ((b8.add ((x7 : Int).toNat * 4)).add 2) = some (.int .i64 x11) ∧
 (∃ (x12 : Int), w5.cell? ((b8.add ((x7 : Int).toNat * 4)).add 3) = some (.int .i64 x12) ∧
 (AllocK w5 (#[.int .i64 0, .int .i64 0, .int .i64 0, .int .i64 0]) 33 fun b13 w14 =>
 SetK w14 (b13.add 0) (.int .i64 x9) fun w15 =>
 SetK w15 (b13.add 1) (.int .i64 x10) fun w16 =>
 SetK w16 (b13.add 2) (.int .i64 x11) fun w17 =>
 SetK w17 (b13.add 3) (.int .i64 x12) fun w18 =>
 ∃ (J19 : Bool → World → Prop),
 (∀ (w20 : World) (p21 : Bool), J19 p21 w20 →
 BoolK p21
 (∃ (x22 : Int), w20.cell? (b13.add 0) = some (.int .i64 x22) ∧
 (∃ (x23 : Int), w20.cell? (b13.add 1) = some (.int .i64 x23) ∧
 (∃ (x24 : Int), w20.cell? (b13.add 2) = some (.int .i64 x24) ∧
 (∃ (x25 : Int), w20.cell? (b13.add 3) = some (.int .i64 x25) ∧
 (AllocK w20 (#[(.int .i64 x22), (.int .i64 x23), (.int .i64 x24), (.int .i64 x25)]) 33 fun b26 w27 =>
 ∃ (a28 : Option Addr), ∃ (l28 : Nat), ∃ (c28 : Nat), ∃ (w29 : World), Sem.run Tryz.prog (Builtin.append_ #[22, 22] 22 #[(.slice a6 l6 c6), (.slice (some b26) 1 1)]) w27 = .ok (.slice a28 l28 c28) w29 ∧
 (I3 a28 l28 c28 (IntKind.wrap .i64 (x7 + 1)) w29 ∧ μ4 a28 l28 c28 (IntKind.wrap .i64 (x7 + 1)) w29 < μ4 a6 l6 c6 x7 w5))))))
 (I3 a6 l6 c6 (IntKind.wrap .i64 (x7 + 1)) w20 ∧ μ4 a6 l6 c6 (IntKind.wrap .i64 (x7 + 1)) w20 < μ4 a6 l6 c6 x7 w5)) ∧
 (∃ (x30 : Int), w18.cell? b13 = some (.int .i64 x30) ∧
 (BoolK ((x30 : Int) != 4)
 (∃ (x31 : Int), w18.cell? b13 = some (.int .i64 x31) ∧
 (BoolK ((x31 : Int) != 7)
 (∃ (x32 : Int), w18.cell? b13 = some (.int .i64 x32) ∧
 (J19 ((x32 : Int) != 8) w18))
 (J19 false w18)))
 (J19 false w18))))))))
 (Calls Tryz.prog 14 #[(.int .i64 x1), (.int .i64 100), (.int .i64 100), (.slice a6 l6 c6)] w5 fun e37 w36 =>
 ∃ (o33 : Option Addr), ∃ (o34 : Option Addr), ∃ (p35 : Bool), e37 = .returned (.tuple #[(.pointer o33), (.pointer o34), (.bool p35)]) ∧
 (BoolK (!p35)
 (Calls Tryz.prog 6 #[] w36 fun e40 w39 =>
 ∃ (p38 : Bool), e40 = .returned (.bool p38) ∧
 (K p38 w39))
 (∃ (J41 : World → Prop),
 (∀ (w42 : World), J41 w42 →
 Calls Tryz.prog 8 #[(.pointer o33)] w42 fun e45 w44 =>
 ∃ (a43 : Option Addr), ∃ (l43 : Nat), ∃ (c43 : Nat), e45 = .returned (.slice a43 l43 c43) ∧
 (BoolK (decide (((l43 : Nat) : Int) > 0))
 (Calls Tryz.prog 6 #[] w44 fun e48 w47 =>
 ∃ (p46 : Bool), e48 = .returned (.bool p46) ∧
 (K p46 w47))
 (∃ (I49 : Int → World → Prop) (μ50 : Int → World → Nat),
 (I49 1 w44 ∧ True) ∧
 ∀ (w51 : World) (x52 : Int), I49 x52 w51 →
 AddrK o34 fun b53 =>
 ∃ (a54 : Option Addr) (l54 : Nat) (c54 : Nat), w51.cell? (b53.add 4) = some (.slice a54 l54 c54) ∧
 (BoolK (decide ((x52 : Int) ≤ (l54 : Nat)))
 (Calls Tryz.prog 11 #[(.pointer o33), (.int .i64 x52)] w51 fun e58 w57 =>
 ∃ (x55 : Int), ∃ (x56 : Int), e58 = .returned (.tuple #[(.int .i64 x55), (.int .i64 x56)]) ∧
 (BoolK ((x55 : Int) != 0)
 (K false w57)
 (BoolK ((x56 : Int) != 0)
 (K false w57)
 (Calls Tryz.prog 13 #[(.pointer o33), (.int .i64 x52)] w57 fun e61 w60 =>
 ∃ (s59 : ByteArray), e61 = .returned (.string s59) ∧
 (BoolK (!((s59 : ByteArray).toList == ((⟨#[100, 101, 97, 100]⟩ : ByteArray) : ByteArray).toList))
 (K false w60)
 (I49 (IntKind.wrap .i64 (x52 + 1)) w60 ∧ μ50 (IntKind.wrap .i64 (x52 + 1)) w60 < μ50 x52 w51))))))
 (AddrK o34 fun b62 =>
 ∃ (x63 : Int), w51.cell? b62 = some (.int .i64 x63) ∧
 (∃ (I64 : Int → World → Prop) (μ65 : Int → World → Nat),
 (I64 0 w51 ∧ True) ∧
 ∀ (w66 : World) (x67 : Int), I64 x67 w66 →
 BoolK (decide ((x67 : Int) < x63))
 (Calls Tryz.prog 18 #[(.pointer o33), (.int .i64 x67)] w66 fun e71 w70 =>
 ∃ (a68 : Option Addr), ∃ (l68 : Nat), ∃ (c68 : Nat), ∃ (x69 : Int), e71 = .returned (.tuple #[(.slice a68 l68 c68), (.int .i64 x69)]) ∧
 (BoolK ((x69 : Int) != 0)
 (K false w70)
 (Calls Tryz.prog 18 #[(.pointer o33), (.int .i64 x67)] w70 fun e75 w74 =>
 ∃ (a72 : Option Addr), ∃ (l72 : Nat), ∃ (c72 : Nat), ∃ (x73 : Int), e75 = .returned (.tuple #[(.slice a72 l72 c72), (.int .i64 x73)]) ∧
 (BoolK (decide (((l72 : Nat) : Int) > 0))
 (K false w74)
 (I64 (IntKind.wrap .i64 (x67 + 1)) w74 ∧ μ65 (IntKind.wrap .i64 (x67 + 1)) w74 < μ65 x67 w66)))))
 (Calls Tryz.prog 6 #[] w66 fun e78 w77 =>
 ∃ (p76 : Bool), e78 = .returned (.bool p76) ∧
 (K p76 w77)))))))) ∧
 (∃ (I79 : Int → World → Prop) (μ80 : Int → World → Nat),
 (I79 0 w36 ∧ True) ∧
 ∀ (w81 : World) (x82 : Int), I79 x82 w81 →
 ∃ (J83 : World → Prop),
 (∀ (w84 : World), J83 w84 →
 ∃ (J85 : Int → World → Prop),
 (∀ (w86 : World) (x87 : Int), J85 x87 w86 →
 ∃ (I88 : Int → World → Prop) (μ89 : Int → World → Nat),
 (I88 1 w86 ∧ True) ∧
 ∀ (w90 : World) (x91 : Int), I88 x91 w90 →
 AddrK o34 fun b92 =>
 ∃ (a93 : Option Addr) (l93 : Nat) (c93 : Nat), w90.cell? (b92.add 4) = some (.slice a93 l93 c93) ∧
 (BoolK (decide ((x91 : Int) ≤ (l93 : Nat)))
 (AddrK o34 fun b94 =>
 ∃ (x95 : Int), w90.cell? b94 = some (.int .i64 x95) ∧
 (∃ (I96 : Int → World → Prop) (μ97 : Int → World → Nat),
 (I96 0 w90 ∧ True) ∧
 ∀ (w98 : World) (x99 : Int), I96 x99 w98 →
 BoolK (decide ((x99 : Int) < x95))
 (Calls Tryz.prog 16 #[(.pointer o33), (.int .i64 x99), (.int .i64 x91)] w98 fun e102 w101 =>
 ∃ (p100 : Bool), e102 = .returned (.bool p100) ∧
 (BoolK p100
 (Calls Tryz.prog 17 #[(.pointer o33), (.int .i64 x99), (.int .i64 x91)] w101 fun e105 w104 =>
 ∃ (x103 : Int), e105 = .returned (.int .i64 x103) ∧
 (BoolK ((x103 : Int) != 0)
 (K false w104)
 (I96 (IntKind.wrap .i64 (x99 + 1)) w104 ∧ μ97 (IntKind.wrap .i64 (x99 + 1)) w104 < μ97 x99 w98)))
 (I96 (IntKind.wrap .i64 (x99 + 1)) w101 ∧ μ97 (IntKind.wrap .i64 (x99 + 1)) w101 < μ97 x99 w98)))
 (I88 (IntKind.wrap .i64 (x91 + 1)) w98 ∧ μ89 (IntKind.wrap .i64 (x91 + 1)) w98 < μ89 x91 w90)))
 (I79 (IntKind.wrap .i64 (x87 + 1)) w90 ∧ μ80 (IntKind.wrap .i64 (x87 + 1)) w90 < μ80 x82 w81))) ∧
 (∃ (I106 : Int → World → Prop) (μ107 : Int → World → Nat),
 (I106 x82 w84 ∧ True) ∧
 ∀ (w108 : World) (x109 : Int), I106 x109 w108 →
 Calls Tryz.prog 8 #[(.pointer o33)] w108 fun e112 w111 =>
 ∃ (a110 : Option Addr), ∃ (l110 : Nat), ∃ (c110 : Nat), e112 = .returned (.slice a110 l110 c110) ∧
 (BoolK (decide (((l110 : Nat) : Int) > 0))
 (BoolK (decide ((x109 : Int) < 399))
 (Calls Tryz.prog 15 #[(.pointer o33), (.int .i64 0)] w111 fun e115 w114 =>
 ∃ (x113 : Int), e115 = .returned (.int .i64 x113) ∧
 (BoolK ((x113 : Int) != 0)
 (K false w114)
 (I106 (IntKind.wrap .i64 (x109 + 1)) w114 ∧ μ107 (IntKind.wrap .i64 (x109 + 1)) w114 < μ107 x109 w108)))
 (J85 x109 w111))
 (J85 x109 w111)))) ∧
 (BoolK (decide ((x82 : Int) < 400))
 (Calls Tryz.prog 8 #[(.pointer o33)] w81 fun e118 w117 =>
 ∃ (a116 : Option Addr), ∃ (l116 : Nat), ∃ (c116 : Nat), e118 = .returned (.slice a116 l116 c116) ∧
 (BoolK (decide (((l116 : Nat) : Int) > 0))
 (J83 w117)
 (BoolK (decide ((x82 : Int) < 2))
 (J83 w117)
 (J41 w117))))
 (J41 w81))))))
def ann4 : Ann := (.two .nil (.two .nil (.two (.two .nil (.one (.loop [(5, (.one .slice)), (24, (.one (.int .i64)))] [0, 22, 23] (.two .nil (.two (.two .nil .nil) (.two (.one (.two .nil (.cut [(40, (.one .bool))] [0, 5, 7, 22, 23, 24] .nil (.two .nil .nil)))) .nil)))))) (.two .nil (.two (.two .nil (.two (.two .nil .nil) .nil)) (.cut [] [8, 9] (.two .nil (.one (.loop [(11, (.one (.int .i64)))] [8, 9] (.cut [] [8, 9, 11] (.two .nil (.two .nil .nil)) (.two (.one (.cut [(11, (.one (.int .i64)))] [8, 9] (.one (.loop [(11, (.one (.int .i64)))] [8, 9] (.two (.two .nil (.two .nil .nil)) (.one (.two .nil (.two .nil (.two (.two .nil .nil) .nil))))))) (.two .nil (.one (.loop [(12, (.one (.int .i64)))] [8, 9, 11] (.two (.two .nil (.two .nil .nil)) (.two (.one (.two .nil (.one (.loop [(96, (.one (.int .i64)))] [8, 9, 11, 12, 95] (.two .nil (.two (.two .nil .nil) (.two (.one (.two .nil (.two .nil (.two (.two .nil .nil) .nil)))) .nil))))))) .nil))))))) .nil))))) (.two (.two .nil (.two (.two .nil .nil) .nil)) (.two (.two .nil (.one (.loop [(14, (.one (.int .i64)))] [8, 9] (.two (.two .nil (.two .nil .nil)) (.two (.one (.two .nil (.two .nil (.two (.two .nil .nil) .nil)))) .nil))))) (.two (.two .nil (.one (.loop [(147, (.one (.int .i64)))] [8, 146] (.two .nil (.two (.two .nil .nil) (.two (.one (.two .nil (.two (.two .nil (.two .nil (.two (.two .nil .nil) .nil))) (.two .nil (.two .nil (.two (.two .nil .nil) .nil)))))) .nil)))))) (.two .nil .nil))))))))))
noncomputable def code4 : Code := match Tryz.f4.body with | some c => c | none => .skip
theorem wp4 (x1 : Int) (a2 : Option Addr) (l2 : Nat) (c2 : Nat) (K : Bool → World → Prop) (w : World) : WP Tryz.prog tab code4 ann4 (fnQ tab Tryz.f4.results.toList [(.one .bool)] K) (argE 0 [(.int .i64 x1), (.slice a2 l2 c2)]) w = N4 x1 a2 l2 c2 K w := by kernel_rfl
theorem calls4 (x1 : Int) (a2 : Option Addr) (l2 : Nat) (c2 : Nat) (K : Bool → World → Prop) (w : World) (h : N4 x1 a2 l2 c2 K w) : Calls Tryz.prog 4 #[(.int .i64 x1), (.slice a2 l2 c2)] w fun en w' => ∃ (p119 : Bool), en = .returned (.bool p119) ∧ K p119 w' :=
 have e : (fun en w' => ExShs [(.one .bool)] fun vs => en = .returned (tupled vs) ∧ ap [(.one .bool)] K vs fun p => p w') = (fun (en : Ending) (w' : World) => ∃ (p119 : Bool), en = .returned (.bool p119) ∧ K p119 w') := by kernel_rfl
 e ▸ fn_sound tabOk mixed Tryz.func4 (by kernel_rfl : Tryz.f4.body = some code4) ann4 [(.int .i64 x1), (.slice a2 l2 c2)] [(.one .bool)] K w (by kernel_rfl) ((wp4 x1 a2 l2 c2 K w).symm ▸ h)
end Go.Proofs.YtgggbmikmmljcaaGreat

namespace Go.Proofs.YtgggbmikmmljcaaGreat
open Go Go.V Go.Proofs
open Go.RowKit (Below)
def eA (v : Int × Int × Int × Int) : List Value := [.int .i64 v.1, .int .i64 v.2.1, .int .i64 v.2.2.1, .int .i64 v.2.2.2]
theorem eA_len (v : Int × Int × Int × Int) : (eA v).length = 4 := rfl
theorem eA_one (v : Int × Int × Int × Int) (u : Value) (h : u ∈ eA v) : u.oneCell' = true := by
  simp [eA] at h; rcases h with rfl | rfl | rfl | rfl <;> rfl
theorem sltA : SlT Tryz.prog 22 33 4 32 := slOk.ok (by kernel_rfl : slOk Tryz.prog 22 33 4 32 = true)
section
variable {w w' w0 w1 w2 : World} {own own' : OwnM Role} {r r' : Raw} {S S' : CS} {κ κ' : Ka RK} {N N1 : Prm} {q : Rb} {k f k' f' : Nat} {rb : Nat} {R R' : CS → Prop}
structure LZ (R : CS → Prop) (w0 : World) (k f : Nat) (own : OwnM Role) (r : Raw) (S : CS) (κ : Ka RK) (N : Prm) (q : Rb) (rb : Nat) (w : World) : Prop where
  jt : Jt w own r S κ N q
  inv : Inv k f S
  ok : R S
  n : N.n = S.things.length
  s : N.s = S.clocks.length
  fr : FrJ noOwn own noKa κ w0 w
  rb : r.b = rb
theorem LZ.ext (h : LZ R w0 k f own r S κ N q rb w) (x : Ext w w') : LZ R w0 k f own r S κ N q rb w' := ⟨h.jt.ext x, h.inv, h.ok, h.n, h.s, h.fr.trans (FrJ.ext own κ x), h.rb⟩
theorem LZ.mono (h : LZ R w0 k f own r S κ N q rb w) (hk : k ≤ k') (hf : f ≤ f') : LZ R w0 k' f' own r S κ N q rb w := ⟨h.jt, h.inv.mono hk hf, h.ok, h.n, h.s, h.fr, h.rb⟩
theorem LZ.step (h : LZ R w0 k f own r S κ N q rb w) (p : PostC own r w S' w') (i : Inv k' f' S') (o : R' S') (l : Sm S S') : ∃ own' r', LZ R' w0 k' f' own' r' S' κ N q rb w' := by
  obtain ⟨own', r', J, F, er, _⟩ := h.jt.prog p
  exact ⟨own', r', J, i, o, by rw [l.1]; exact h.n, by rw [l.2]; exact h.s, h.fr.trans F, er.trans h.rb⟩
def RA (S : CS) : Prop := AI S ∧ ∀ t, S.dif t = 0
theorem DropOk.len {a b e : Int} (p : DropOk S a b e S') : Sm S S' := by
  have : PlayOk S 3 a b 0 S' := by unfold PlayOk; rw [if_neg (by decide), if_neg (by decide), if_neg (by decide), if_pos rfl]; exact ⟨e, p⟩
  exact this.len (by decide)
theorem DelOk.len {a e : Int} (p : DelOk S a e S') : Sm S S' := by
  have : PlayOk S 6 a 0 0 S' := by unfold PlayOk; rw [if_neg (by decide), if_neg (by decide), if_neg (by decide), if_neg (by decide), if_neg (by decide), if_neg (by decide), if_pos rfl]; exact ⟨e, p⟩
  exact this.len (by decide)
def dropd (S : CS) : Prop := ∀ s x, S.isS s → S.isT x → S.holdsE s x = false
def calmD (d : Int) : Prop := d ≠ 4 ∧ d ≠ 7 ∧ d ≠ 8
theorem RdA.ofOwn {base : Nat} {a : Option Addr} {l c : Nat} {xs : List (Int × Int × Int × Int)} (h : OwnR base 33 4 eA w a l c xs) (hP : ∀ v ∈ xs, calmD v.1) : RdA calmD w a l := fun i hi => by
  have hi' : i < xs.length := by rw [← h.1]; exact hi
  obtain ⟨g, ha, _, hg, hc⟩ := h.cellAt eA_len (List.getElem?_eq_getElem hi')
  refine ⟨g, 0, ha, hg, xs[i].1, xs[i].2.1, xs[i].2.2.1, xs[i].2.2.2, hP _ (List.getElem_mem hi'), ?_, ?_, ?_, ?_⟩
  · rw [Nat.zero_add]; exact (hc 0 (by omega)).trans rfl
  · rw [Nat.zero_add]; exact (hc 1 (by omega)).trans rfl
  · rw [Nat.zero_add]; exact (hc 2 (by omega)).trans rfl
  · rw [Nat.zero_add]; exact (hc 3 (by omega)).trans rfl
set_option maxRecDepth 100000 in
theorem c4 (w : World) (x : Int) {a2 : Option Addr} {l2 : Nat} (c2 : Nat) (hA : RdA (fun _ => True) w a2 l2) (hl2 : l2 * 32 ≤ 140737488355328) :
    Calls Tryz.prog 4 #[.int .i64 x, .slice a2 l2 c2] w fun en w' => ∃ p, en = .returned (.bool p) ∧ p = true ∧ Ext w w' := by
  refine calls4 _ _ _ _ (fun p w' => p = true ∧ Ext w w') w ?_
  have awake : ∀ {w1 : World}, Ext w w1 → Calls Tryz.prog 6 #[] w1 fun en w' => ∃ p, en = .returned (.bool p) ∧ (p = true ∧ Ext w w') := fun {w1} h => by
    refine (c6 w1).mono ?_
    rintro en w13 ⟨p, rfl, rfl, x13⟩
    exact ⟨_, rfl, rfl, h.trans x13⟩
  -- the filter
  refine ⟨fun a l c i w' => ∃ (n : Nat) (xs : List (Int × Int × Int × Int)), i = n ∧ n ≤ l2 ∧ OwnR w.heap.size 33 4 eA w' a l c xs ∧ xs.length ≤ n ∧ (∀ v ∈ xs, calmD v.1) ∧ Ext w w', fun _ _ _ i _ => l2 - i.toNat,
    ⟨⟨0, [], rfl, Nat.zero_le _, OwnR.nil _ _ _ _ _, Nat.zero_le _, fun v hv => (by cases hv), Ext.refl _⟩, trivial⟩, ?_⟩
  rintro w5 a6 l6 c6 i ⟨n, xs, rfl, hn, hO, hxl, hP, x5⟩
  refine BoolK.mk (fun t => ?_) (fun t => ?_)
  · have t := of_decide_eq_true t
    have hnl : n < l2 := by omega
    obtain ⟨b4, o4, e4, -, d, a, b, c, -, g0, g1, g2, g3⟩ := (hA.keep x5.size x5.block) n hnl
    refine ⟨⟨by omega, t⟩, adK e4 ⟨d, by rw [add_mk, add_mk, Int.toNat_natCast]; exact g0, a, by rw [add_mk, add_mk, Int.toNat_natCast]; exact g1, b, by rw [add_mk, add_mk, Int.toNat_natCast]; exact g2, c, by rw [add_mk, add_mk, Int.toNat_natCast]; exact g3, ?_⟩⟩
    refine box4 fun b13 w18 hb13 hB13 x18 => ?_
    have X18 := x5.trans x18
    have e1 : IntKind.wrap .i64 ((n : Int) + 1) = ((n + 1 : Nat) : Int) := wrap_succ (by omega)
    refine ⟨fun p w' => (p = true → calmD d) ∧ w' = w18, ?_, ?_⟩
    · rintro w20 p ⟨hp, rfl⟩
      refine BoolK.mk (fun t2 => ?_) (fun t2 => ?_)
      · refine ⟨d, bx4 hB13 rfl, a, bx4 hB13 rfl, b, bx4 hB13 rfl, c, bx4 hB13 rfl, ?_⟩
        refine OwnR.push (te := 33) ((d, a, b, c) : Int × Int × Int × Int) sltA (hO.ext x18) X18.size eA_len eA_one (by omega) rfl fun a' c' w29 hO29 hgr hob => ?_
        rw [e1]
        refine ⟨⟨n + 1, _, rfl, by omega, hO29, by rw [List.length_append, List.length_singleton]; omega, fun v hv => ?_, Below.trans X18 ((hO.ext x18).below X18.size hgr)⟩, by show l2 - ((n + 1 : Nat) : Int).toNat < l2 - (n : Int).toNat; omega⟩
        rw [List.mem_append, List.mem_singleton] at hv
        rcases hv with hv | rfl
        · exact hP v hv
        · exact hp t2
      · rw [e1]
        exact ⟨⟨n + 1, xs, rfl, by omega, hO.ext x18, by omega, hP, X18⟩, by show l2 - ((n + 1 : Nat) : Int).toNat < l2 - (n : Int).toNat; omega⟩
    · refine ⟨d, bx40 hB13 rfl, BoolK.mk (fun t4 => ⟨d, bx40 hB13 rfl, BoolK.mk (fun t7 => ⟨d, bx40 hB13 rfl, fun t8 => ?_, rfl⟩) (fun _ => ⟨fun h => (by cases h), rfl⟩)⟩) (fun _ => ⟨fun h => (by cases h), rfl⟩)⟩
      exact ⟨by simpa using t4, by simpa using t7, by simpa using t8⟩
  clear hA
  refine (c14 w5 x 100 100 c6 (RdA.ofOwn hO hP) (Q := RA) (fun _ => ⟨AI.zero, zero_dif⟩) (fun {k f S S' d a b c} I hq hd hp => ⟨hq.1.play I hp hd.1 hd.2.1 hd.2.2, fun t => by rw [(I.play hp).2, hq.2, hq.1.loss I hd.2.1]; rfl⟩)).mono ?_
  rintro en w36 ⟨o33, o34, p35, rfl, H⟩
  refine ⟨_, _, _, rfl, BoolK.mk (fun t3 => ?_) (fun t3 => ?_)⟩
  · rcases H with ⟨_, xe⟩ | ⟨hp, _⟩
    · exact awake (x5.trans xe)
    · rw [hp] at t3; cases t3
  rcases H with ⟨hp, _⟩ | ⟨_, j, own, r, S, κ, N, q, hj, LL, hq, rfl, rfl⟩
  · rw [hp] at t3; cases t3
  have Z36 : LZ RA w5 300 300000 own r S κ N q r.b w36 := ⟨LL.jt, LL.inv.mono hj (by omega), hq, LL.bd.n, LL.bd.s, LL.fr, rfl⟩
  generalize r.b = rb at *
  have ckS := LL.inv.ck
  have hNs : N.s ≤ 5 := by rw [LL.bd.s]; exact ckS.2
  have toE : ∀ {R : CS → Prop} {k f : Nat} {own r S} {w'}, LZ R w5 k f own r S κ N q rb w' → Ext w w' := fun h => x5.trans h.fr.toExt
  refine ⟨fun w' => ∃ (own : OwnM Role) (r : Raw) (S : CS), LZ RA w5 701 5000000 own r S κ N q rb w' ∧ dropd S, ?_, ?_⟩
  · -- all is dead
    rintro w42 ⟨own, r, S, Z, hdr⟩
    have hrb := Z.rb
    obtain ⟨rb', cl, ca, th, fl, mp, ma, mg, mm, mw, ths, wts⟩ := r
    cases hrb
    have I := Z.inv
    have G : Safe S := I.safe (by omega) (by omega)
    have Ith := I.th
    have Zn := Z.n; have Zs := Z.s
    refine (c8 Z.jt.c G.toLim).mono ?_
    rintro en w44 ⟨a', l', c', rfl, hO, x44⟩
    have hl' : l' = S.fly.length := hO.1
    have Z44 := Z.ext x44
    refine ⟨_, _, _, rfl, BoolK.mk (fun _ => awake (toE Z44)) (fun tf => ?_)⟩
    have tf := of_decide_eq_false tf
    have hfly : S.fly = [] := List.eq_nil_of_length_eq_zero (by omega)
    have hQ := Z.ok.1.qd I hfly Z.ok.2 hdr
    refine ⟨fun y w' => ∃ n : Nat, y = n + 1 ∧ n ≤ S.things.length ∧ Ext w44 w', fun y _ => S.things.length + 1 - y.toNat, ⟨⟨0, rfl, Nat.zero_le _, Ext.refl _⟩, trivial⟩, ?_⟩
    rintro w51 y ⟨n, rfl, hn, x51⟩
    have Z51 := Z44.ext x51
    obtain ⟨a4', c4', e4, -⟩ := Z51.jt.r.c4
    refine ⟨a4', N.n, c4', e4, BoolK.mk (fun t5 => ?_) (fun _ => ?_)⟩
    · have t5 := of_decide_eq_true t5
      have hT : S.isT ((n : Int) + 1) := ⟨by omega, by omega⟩
      refine (c11 Z51.jt.c G.toLim ((n : Int) + 1)).mono ?_
      rintro en w57 ⟨ao, bo, rfl, ho, rfl⟩
      rw [CS.outE, if_pos hT, Prod.mk.injEq, (hQ.th _ hT).2.2.2] at ho
      obtain ⟨rfl, rfl⟩ := ho
      refine ⟨_, _, rfl, BoolK.mk (fun t => by simp at t) (fun _ => BoolK.mk (fun t => by simp at t) (fun _ => ?_))⟩
      refine (c13 Z51.jt.c G.toLim2 ((n : Int) + 1)).mono ?_
      rintro en w60 ⟨s, rfl, hs, x60⟩
      refine ⟨_, rfl, BoolK.mk (fun (t6 : (!isK s kDead) = true) => ?_) (fun _ => ?_)⟩
      · rw [hQ.state hT hs] at t6; cases t6
      · rw [wrap_id (by omega) (by omega)]
        exact ⟨⟨n + 1, by omega, by omega, x51.trans x60⟩, by show S.things.length + 1 - ((n : Int) + 1 + 1).toNat < S.things.length + 1 - ((n : Int) + 1).toNat; omega⟩
    refine ⟨N.s, Z51.jt.r.c0, ?_⟩
    refine ⟨fun y w' => ∃ (i : Nat) (own : OwnM Role) (r : Raw) (S : CS), y = i ∧ i ≤ N.s ∧ LZ QD w5 701 (5000000 + 2000 * i) own r S κ N q rb' w', fun y _ => N.s - y.toNat, ⟨⟨0, own, _, S, rfl, Nat.zero_le _, Z51.jt, Z51.inv, hQ, Z51.n, Z51.s, Z51.fr, rfl⟩, trivial⟩, ?_⟩
    clear Z Z44 Z51 hQ hfly hdr G I Ith Zn Zs hl' hO hn
    rintro w66 y ⟨i, own, r, S, rfl, hi, Z⟩
    have hrb := Z.rb
    obtain ⟨rb2, cl, ca, th, fl, mp, ma, mg, mm, mw, ths, wts⟩ := r
    cases hrb
    have I := Z.inv
    have G : Safe S := I.safe (by omega) (by omega)
    refine BoolK.mk (fun t6 => ?_) (fun _ => awake (toE Z))
    have t6 := of_decide_eq_true t6
    have Zs := Z.s
    have Ica := I.ca; have Ifl := I.fl
    have hS : S.isS (i : Int) := ⟨by omega, by omega⟩
    refine (c18 Z.jt.c G (by omega) I.caT (i : Int)).mono ?_
    rintro en w70 ⟨a68, l68, c68, e69, rfl, ys, S1, -, -, -, P, hS1⟩
    rcases hS1 with ⟨hn, _⟩ | ⟨-, rfl, hS1⟩
    · exact absurd hS hn
    refine ⟨_, _, _, _, rfl, BoolK.mk (fun t => by simp at t) (fun _ => ?_)⟩
    obtain ⟨Q1, l1, l2', sw1, -⟩ := Z.ok.sweep hS1
    obtain ⟨own1, r1, Z1⟩ := Z.step P (I.sweep hS hS1).1 (R' := QD) Q1 ⟨l1, by rw [l2']⟩
    have hrb := Z1.rb
    obtain ⟨rb3, cl3, ca3, th3, fl3, mp3, ma3, mg3, mm3, mw3, ths3, wts3⟩ := r1
    simp only at hrb
    subst hrb
    have I1 := Z1.inv
    have G1 : Safe S1 := I1.safe (by omega) (by omega)
    have hSS : S1.isS (i : Int) := by unfold CS.isS; rw [l2']; exact hS
    have Ica1 := I1.ca; have Ifl1 := I1.fl
    refine (c18 Z1.jt.c G1 (by omega) I1.caT (i : Int)).mono ?_
    rintro en w74 ⟨a72, l72, c72, e73, rfl, zs, S2, hz, -, -, P2, hS2⟩
    rcases hS2 with ⟨hn, _⟩ | ⟨-, rfl, hS2⟩
    · exact absurd hSS hn
    obtain ⟨Q2, m1, m2, -, hn2⟩ := Q1.sweep hS2
    have hz0 : zs.length = 0 := by
      rcases hn2 with hn2 | ⟨i2, t, ht, ho, hsw⟩
      · exact hn2
      · have := sw1 i2 t ht ho; rw [hsw] at this; cases this
    obtain ⟨own2, r2, Z2⟩ := Z1.step P2 (I1.sweep hSS hS2).1 (R' := QD) Q2 ⟨m1, by rw [m2]⟩
    have hl72 : l72 = zs.length := hz.1
    refine ⟨_, _, _, _, rfl, BoolK.mk (fun t => ?_) (fun _ => ?_)⟩
    · have := of_decide_eq_true t; omega
    · rw [wrap_id (by omega) (by omega)]
      exact ⟨⟨i + 1, own2, r2, S2, by omega, by omega, Z2.mono (Nat.le_refl _) (by omega)⟩, by show N.s - ((i : Int) + 1).toNat < N.s - (i : Int).toNat; omega⟩
  · -- the rounds
    refine ⟨fun y w' => ∃ (m : Nat) (own : OwnM Role) (r : Raw) (S : CS), y = m ∧ m ≤ 400 ∧ LZ RA w5 (300 + m) (300000 + 10000 * m) own r S κ N q rb w' ∧ (m = 0 ∨ dropd S), fun y _ => 400 - y.toNat, ⟨⟨0, own, r, S, rfl, Nat.zero_le _, Z36, .inl rfl⟩, trivial⟩, ?_⟩
    clear Z36 LL hq ckS
    rintro w81 y ⟨m, own, r, S, rfl, hm, Z, hd⟩
    have hrb := Z.rb
    obtain ⟨rb', cl, ca, th, fl, mp, ma, mg, mm, mw, ths, wts⟩ := r
    cases hrb
    refine ⟨fun w' => m < 400 ∧ ∃ (own : OwnM Role) (r : Raw) (S : CS), LZ RA w5 (300 + m) (300000 + 10000 * m) own r S κ N q rb' w', ?_, ?_⟩
    rotate_left
    · -- whether there is a round
      have out : (m = 0 → False) → ∀ {w'}, Ext w81 w' → ∃ (own : OwnM Role) (r : Raw) (S : CS), LZ RA w5 701 5000000 own r S κ N q rb' w' ∧ dropd S := fun h0 {w'} xx => by
        rcases hd with hd | hd
        · exact absurd hd h0
        · exact ⟨own, _, S, (Z.ext xx).mono (by omega) (by omega), hd⟩
      refine BoolK.mk (fun t => ?_) (fun t => out (fun h => by have := of_decide_eq_false t; omega) (Ext.refl _))
      have t := of_decide_eq_true t
      refine (c8 Z.jt.c (Z.inv.safe (by omega) (by omega)).toLim).mono ?_
      rintro en w117 ⟨a', l', c', rfl, -, x117⟩
      have ent : m < 400 ∧ ∃ (own : OwnM Role) (r : Raw) (S : CS), LZ RA w5 (300 + m) (300000 + 10000 * m) own r S κ N q rb' w117 := ⟨by omega, own, _, S, Z.ext x117⟩
      refine ⟨_, _, _, rfl, BoolK.mk (fun _ => ent) (fun _ => BoolK.mk (fun _ => ent) (fun t2 => out (fun h => ?_) x117))⟩
      have := of_decide_eq_false t2; omega
    rintro w84 ⟨hm4, own, r, S, Z⟩
    clear hd
    refine ⟨fun y w' => ∃ (m2 : Nat) (own : OwnM Role) (r : Raw) (S : CS), y = m2 ∧ m ≤ m2 ∧ m2 ≤ 399 ∧ LZ RA w5 (300 + m2) (300000 + 10000 * m2) own r S κ N q rb' w', ?_, ?_⟩
    rotate_left
    · -- all is delivered
      refine ⟨fun y w' => ∃ (m2 : Nat) (own : OwnM Role) (r : Raw) (S : CS), y = m2 ∧ m ≤ m2 ∧ m2 ≤ 399 ∧ LZ RA w5 (300 + m2) (300000 + 10000 * m2) own r S κ N q rb' w', fun y _ => 400 - y.toNat, ⟨⟨m, own, r, S, rfl, Nat.le_refl _, by omega, Z⟩, trivial⟩, ?_⟩
      rintro w108 y ⟨m2, own, r, S, rfl, h1, h2, Z⟩
      have hrb := Z.rb
      obtain ⟨rb2, cl, ca, th, fl, mp, ma, mg, mm, mw, ths, wts⟩ := r
      simp only at hrb
      subst hrb
      have I := Z.inv
      have G : Safe S := I.safe (by omega) (by omega)
      refine (c8 Z.jt.c G.toLim).mono ?_
      rintro en w111 ⟨a', l', c', rfl, hO, x111⟩
      have hl' : l' = S.fly.length := hO.1
      have Z2 := Z.ext x111
      refine ⟨_, _, _, rfl, BoolK.mk (fun t => ?_) (fun _ => ⟨m2, own, _, S, rfl, h1, h2, Z2⟩)⟩
      have t := of_decide_eq_true t
      refine BoolK.mk (fun t2 => ?_) (fun _ => ⟨m2, own, _, S, rfl, h1, h2, Z2⟩)
      have t2 := of_decide_eq_true t2
      refine (c15 Z2.jt.c G 0).mono ?_
      rintro en w114 ⟨e, rfl, S', hD, P⟩
      have e0 : e = 0 := by
        rcases hD with ⟨hn, _⟩ | ⟨_, _, _, he, _⟩
        · exact absurd ⟨Int.le_refl 0, by omega⟩ hn
        · exact he
      subst e0
      obtain ⟨own1, r1, Z3⟩ := Z2.step P (I.del hD).1 (R' := RA) ⟨Z.ok.1.del I hD, fun t => by rw [(I.del hD).2, Z.ok.2, Z.ok.1.loss I (by decide)]; rfl⟩ hD.len
      refine ⟨_, rfl, BoolK.mk (fun t => by simp at t) (fun _ => ?_)⟩
      rw [wrap_id (by omega) (by omega)]
      exact ⟨⟨m2 + 1, own1, r1, S', by omega, by omega, by omega, Z3.mono (by omega) (by omega)⟩, by show 400 - ((m2 : Int) + 1).toNat < 400 - (m2 : Int).toNat; omega⟩
    rintro w86 y ⟨m2, own, r, S, rfl, h1, h2, Z⟩
    -- all is dropped
    have Hn := Z.n
    have Hth := Z.inv.th
    have nB : N.n ≤ 700 := by omega
    clear Hn Hth
    refine ⟨fun y w' => ∃ (n : Nat) (own : OwnM Role) (r : Raw) (S : CS), y = n + 1 ∧ n ≤ N.n ∧ LZ RA w5 (300 + m2) (300000 + 10000 * m2 + 5 * n) own r S κ N q rb' w' ∧ (∀ s x, S.isS s → 1 ≤ x → x ≤ (n : Int) → S.holdsE s x = false), fun y _ => N.n + 1 - y.toNat, ⟨⟨0, own, r, S, rfl, Nat.zero_le _, Z, fun s x _ a b => by omega⟩, trivial⟩, ?_⟩
    clear Z
    rintro w90 y ⟨n, own, r, S, rfl, hn, Z, hdr⟩
    obtain ⟨a4', c4', e4, -⟩ := Z.jt.r.c4
    refine ⟨a4', N.n, c4', e4, BoolK.mk (fun t5 => ?_) (fun t5 => ?_)⟩
    · have t5 := of_decide_eq_true t5
      refine ⟨N.s, Z.jt.r.c0, ?_⟩
      refine ⟨fun y w' => ∃ (i : Nat) (own : OwnM Role) (r : Raw) (S : CS), y = i ∧ i ≤ N.s ∧ LZ RA w5 (300 + m2) (300000 + 10000 * m2 + 5 * n + i) own r S κ N q rb' w' ∧ (∀ s x, S.isS s → 1 ≤ x → x ≤ (n : Int) → S.holdsE s x = false) ∧ (∀ s : Int, 0 ≤ s → s < i → S.holdsE s ((n : Int) + 1) = false), fun y _ => N.s - y.toNat, ⟨⟨0, own, r, S, rfl, Nat.zero_le _, Z, hdr, fun s a b => by omega⟩, trivial⟩, ?_⟩
      clear Z hdr
      rintro w98 y ⟨i, own, r, S, rfl, hi, Z, hdr, hdi⟩
      have hrb := Z.rb
      obtain ⟨rb2, cl, ca, th, fl, mp, ma, mg, mm, mw, ths, wts⟩ := r
      simp only at hrb
      subst hrb
      have I := Z.inv
      have G : Safe S := I.safe (by omega) (by omega)
      have Zs := Z.s; have Zn := Z.n
      refine BoolK.mk (fun t6 => ?_) (fun t6 => ?_)
      · have t6 := of_decide_eq_true t6
        have hS : S.isS (i : Int) := ⟨by omega, by omega⟩
        refine (c16 Z.jt.c G.toLim i ((n : Int) + 1)).mono ?_
        rintro en w101 ⟨p, rfl, rfl, rfl⟩
        refine ⟨_, rfl, BoolK.mk (fun th2 => ?_) (fun th2 => ?_)⟩
        · refine (c17 Z.jt.c G i ((n : Int) + 1)).mono ?_
          rintro en w104 ⟨e, rfl, S', hD, P⟩
          obtain ⟨rfl, d1, d2⟩ := Z.ok.1.dropH hS th2 hD
          have len := hD.len
          obtain ⟨own1, r1, Z3⟩ := Z.step P (I.drop hD).1 (R' := RA) ⟨Z.ok.1.stp I.flyT (Z.ok.1.drop hD), fun t => by rw [(I.drop hD).2, Z.ok.2]⟩ len
          refine ⟨_, rfl, BoolK.mk (fun t => by simp at t) (fun _ => ?_)⟩
          rw [wrap_id (by omega) (by omega)]
          refine ⟨⟨i + 1, own1, r1, S', by omega, by omega, Z3, fun s x hs a b => d2 s x (hdr s x (by unfold CS.isS at hs ⊢; rw [← len.2]; exact hs) a b), fun s a b => ?_⟩, by show N.s - ((i : Int) + 1).toNat < N.s - (i : Int).toNat; omega⟩
          by_cases e : s = i
          · rw [e]; exact d1
          · exact d2 s _ (hdi s a (by omega))
        · rw [wrap_id (by omega) (by omega)]
          refine ⟨⟨i + 1, own, _, S, by omega, by omega, Z.mono (Nat.le_refl _) (by omega), hdr, fun s a b => ?_⟩, by show N.s - ((i : Int) + 1).toNat < N.s - (i : Int).toNat; omega⟩
          by_cases e : s = i
          · rw [e]; exact th2
          · exact hdi s a (by omega)
      · have t6 := of_decide_eq_false t6
        rw [wrap_id (by omega) (by omega)]
        refine ⟨⟨n + 1, own, _, S, by omega, by omega, Z.mono (Nat.le_refl _) (by omega), fun s x hs a b => ?_⟩, by show N.n + 1 - ((n : Int) + 1 + 1).toNat < N.n + 1 - ((n : Int) + 1).toNat; omega⟩
        by_cases e : x = (n : Int) + 1
        · rw [e]; exact hdi s hs.1 (by have := hs.2; omega)
        · exact hdr s x hs a (by omega)
    · have t5 := of_decide_eq_false t5
      have Zn := Z.n
      rw [wrap_id (by omega) (by omega)]
      exact ⟨⟨m2 + 1, own, r, S, by omega, by omega, Z.mono (by omega) (by omega), .inr fun s x hs hx => hdr s x hs hx.1 (by have := hx.2; omega)⟩, by show 400 - ((m2 : Int) + 1).toNat < 400 - (m : Int).toNat; omega⟩
end
end Go.Proofs.YtgggbmikmmljcaaGreat

namespace Go.V
open Go.RowKit (Below)
def Rd {H : Type} (enc : TypeId × Value → H) (P : Program) (w : World) (t : TypeId) (cs : List Value) : Prop :=
  ∃ fuel x, DataW.trod enc P w 0 (fun _ => true) true fuel t cs = some x
section
variable {H : Type} {enc : TypeId × Value → H} {P : Program} {w : World}
theorem Rd.of {t : TypeId} {v : Value} {d : DataW H} {ps : List MemPlace} (h : DataW.Trod enc P w 0 (fun _ => true) true t v d ps) : Rd enc P w t v.cells.toList := by
  obtain ⟨f, hf⟩ := h; exact ⟨f, _, hf⟩
theorem Rd.int {t : TypeId} {k : IntKind} {cs : List Value} (ht : P.underlying t = some (.int k)) (h : Rd enc P w t cs) : ∃ n, cs = [.int k n] ∧ (Lit.int k n).wf = true := by
  obtain ⟨f, x, h⟩ := h
  obtain ⟨n, h1, _, h2⟩ := DataW.trod_int ht h
  exact ⟨n, h1, h2⟩
theorem Rd.string {t : TypeId} {cs : List Value} (ht : P.underlying t = some .string) (h : Rd enc P w t cs) : ∃ s : ByteArray, cs = [.string s] ∧ s.size ≤ maxLen := by
  obtain ⟨f, x, h⟩ := h
  obtain ⟨s, h1, _, h2⟩ := DataW.trod_string ht h
  exact ⟨s, h1, h2⟩
theorem Rd.array {t e : TypeId} {n : Nat} {cs : List Value} (ht : P.underlying t = some (.array n e)) (h : Rd enc P w t cs) : cs.length = P.cellsOf t ∧ ∀ i, i < n → Rd enc P w e ((cs.drop (i * P.cellsOf e)).take (P.cellsOf e)) := by
  obtain ⟨f, x, h⟩ := h
  obtain ⟨xs, m, _, _, hl, hx, hf⟩ := DataW.trod_array ht h
  refine ⟨hl, fun i hi => ⟨m, xs[i]'(by omega), ?_⟩⟩
  rw [hf i hi, List.getElem?_eq_getElem]
theorem Rd.struct {t : TypeId} {fs : Array Field} {cs : List Value} (ht : P.underlying t = some (.struct fs)) (h : Rd enc P w t cs) : cs.length = P.cellsOf t ∧ ∀ (i : Nat) (f : Field), fs[i]? = some f → Rd enc P w f.type ((cs.drop f.offset).take (P.cellsOf f.type)) := by
  obtain ⟨fu, x, h⟩ := h
  obtain ⟨xs, n, _, _, hl, hlen, hf⟩ := DataW.trod_struct ht h
  refine ⟨hl, fun i f hi => ?_⟩
  have hi' : i < fs.size := (Array.getElem?_eq_some_iff.1 hi).1
  refine ⟨n, xs[i]'(by simpa [hlen] using hi'), ?_⟩
  have := hf i f (by simpa using hi)
  rw [this, List.getElem?_eq_getElem]
theorem Rd.slice {α : Type} {R : World → Cells → α → Prop} {t e : TypeId} {sz : Nat} {cs : List Value} (ht : P.underlying t = some (.slice e)) (hs : P.cellsOf e = sz) (hpos : 0 < sz)
    (hR : ∀ (f : Nat → Option Value) (cs' : List Value), cs'.length = sz → (∀ j, j < sz → f j = cs'[j]?) → Rd enc P w e cs' → ∃ x, R w f x) (h : Rd enc P w t cs) :
    ∃ a l c xs, cs = [.slice a l c] ∧ Rows sz R w a l xs ∧ l ≤ maxLen := by
  obtain ⟨fu, x, h⟩ := h
  rcases Go.Deep.open_slice ht h with ⟨rfl, _⟩ | ⟨a, len, cap, m, n, D, Pl, rfl, hb, hl, hm, hmm, rfl, hx⟩
  · exact ⟨none, 0, 0, [], rfl, Rows.nil _ _ _ _, by simp⟩
  rw [hs] at hx
  have hlm : len ≤ m := by rw [hmm]; split <;> omega
  rcases Nat.eq_zero_or_pos len with h0 | h0
  · subst h0
    exact ⟨some a, 0, cap, [], rfl, Rows.nil _ _ _ _, by simp⟩
  have hspot : a.spot = none := by
    obtain ⟨cs', h1, _⟩ := hx 0 (by omega)
    obtain ⟨_, hlen, hc⟩ := World.cells?_some h1
    have := hc 0 hpos
    rw [Nat.zero_mul, add_mk0, add_mk0, List.getElem?_eq_getElem (by omega)] at this
    exact World.cell?_spot this
  obtain ⟨b, o, s⟩ := a
  simp only at hspot
  subst hspot
  have each : ∀ i, i < len → ∃ x : α, R w (fun j => w.cell? ⟨b, o + i * sz + j, none⟩) x := fun i hi => by
    obtain ⟨cs', h1, h2⟩ := hx i (by omega)
    obtain ⟨_, hlen, hc⟩ := World.cells?_some h1
    refine hR _ cs' hlen (fun j hj => ?_) ⟨n, _, h2⟩
    have := hc j hj
    rw [add_mk, add_mk] at this
    exact this
  have : ∃ xs : List α, xs.length = len ∧ ∀ i x, xs[i]? = some x → R w (fun j => w.cell? ⟨b, o + i * sz + j, none⟩) x := by
    clear hx hlm hmm hl h
    induction len with
    | zero => omega
    | succ k ih =>
      obtain ⟨x, hxk⟩ := each k (by omega)
      rcases Nat.eq_zero_or_pos k with hk | hk
      · subst hk
        refine ⟨[x], rfl, fun i y hy => ?_⟩
        have : i = 0 := by have := (List.getElem?_eq_some_iff.1 hy).1; simp at this; omega
        subst this; simp at hy; subst hy; exact hxk
      · obtain ⟨xs, hl, hxs⟩ := ih hk (fun i hi => each i (by omega))
        refine ⟨xs ++ [x], by simp [hl], fun i y hy => ?_⟩
        rcases Nat.lt_or_ge i xs.length with h | h
        · rw [List.getElem?_append_left h] at hy; exact hxs i y hy
        · rw [List.getElem?_append_right h] at hy
          have hi : i = k := by have := (List.getElem?_eq_some_iff.1 hy).1; simp at this; omega
          subst hi
          rw [hl, Nat.sub_self] at hy; simp at hy; subst hy; exact hxk
  obtain ⟨xs, hl', hxs⟩ := this
  exact ⟨_, len, cap, xs, rfl, ⟨hl'.symm, .inr ⟨b, o, rfl, hxs⟩⟩, by omega⟩
end
end Go.V

namespace Go.Proofs.YtgggbmikmmljcaaGreat
open Go Go.V Go.Proofs
open Go.RowKit (Below)
def RAct (_ : World) (f : Cells) (x : Int × Int × Int × Int) : Prop := f 0 = some (.int .i64 x.1) ∧ f 1 = some (.int .i64 x.2.1) ∧ f 2 = some (.int .i64 x.2.2.1) ∧ f 3 = some (.int .i64 x.2.2.2)
theorem list4 {cs : List Value} (h : cs.length = 4) : ∃ a b c d, cs = [a, b, c, d] := by
  match cs, h with
  | [a, b, c, d], _ => exact ⟨a, b, c, d, rfl⟩
section
variable {H : Type} {enc : TypeId × Value → H} {w : World}
theorem rd_act (f : Nat → Option Value) (cs : List Value) (hl : cs.length = 4) (hf : ∀ j, j < 4 → f j = cs[j]?) (h : Rd enc Tryz.prog w 33 cs) : ∃ x, RAct w f x := by
  obtain ⟨-, hs⟩ := h.struct (fs := #[{ name := "Do", type := 3, offset := 0, embedded := false, tag := "", pkgPath := "", byteOffset := 0 },
        { name := "A", type := 3, offset := 1, embedded := false, tag := "", pkgPath := "", byteOffset := 8 },
        { name := "B", type := 3, offset := 2, embedded := false, tag := "", pkgPath := "", byteOffset := 16 },
        { name := "C", type := 3, offset := 3, embedded := false, tag := "", pkgPath := "", byteOffset := 24 }]) (by kernel_rfl)
  have c3 : Tryz.prog.cellsOf 3 = 1 := by kernel_rfl
  obtain ⟨v0, v1, v2, v3, rfl⟩ := list4 hl
  have f0 : Rd enc Tryz.prog w 3 [v0] := by have h : Rd enc Tryz.prog w 3 (([v0, v1, v2, v3].drop 0).take (Tryz.prog.cellsOf 3)) := hs 0 _ rfl; rw [c3] at h; exact h
  have f1 : Rd enc Tryz.prog w 3 [v1] := by have h : Rd enc Tryz.prog w 3 (([v0, v1, v2, v3].drop 1).take (Tryz.prog.cellsOf 3)) := hs 1 _ rfl; rw [c3] at h; exact h
  have f2 : Rd enc Tryz.prog w 3 [v2] := by have h : Rd enc Tryz.prog w 3 (([v0, v1, v2, v3].drop 2).take (Tryz.prog.cellsOf 3)) := hs 2 _ rfl; rw [c3] at h; exact h
  have f3 : Rd enc Tryz.prog w 3 [v3] := by have h : Rd enc Tryz.prog w 3 (([v0, v1, v2, v3].drop 3).take (Tryz.prog.cellsOf 3)) := hs 3 _ rfl; rw [c3] at h; exact h
  obtain ⟨n0, e0, _⟩ := f0.int (k := .i64) (by kernel_rfl)
  obtain ⟨n1, e1, _⟩ := f1.int (k := .i64) (by kernel_rfl)
  obtain ⟨n2, e2, _⟩ := f2.int (k := .i64) (by kernel_rfl)
  obtain ⟨n3, e3, _⟩ := f3.int (k := .i64) (by kernel_rfl)
  cases e0; cases e1; cases e2; cases e3
  exact ⟨(n0, n1, n2, n3), hf 0 (by omega), hf 1 (by omega), hf 2 (by omega), hf 3 (by omega)⟩
theorem slData {P : Program} {t e : TypeId} {a : Option Addr} {l c : Nat} {d : DataW H} {ps : List MemPlace} (ht : P.underlying t = some (.slice e)) (h : DataW.Trod enc P w 0 (fun _ => true) true t (.slice a l c) d ps) : l = 0 ∨ ∃ elems spare, d = .slice elems spare ∧ elems.length = l := by
  obtain ⟨f, hf⟩ := h
  rcases Go.Deep.open_slice ht hf with ⟨e1, _⟩ | ⟨a2, len, cap, m, n, D, Pl, e1, _, _, _, _, e2, _⟩
  · simp [Value.cells] at e1; exact .inl e1.2.1
  · simp [Value.cells] at e1
    cases e2
    exact .inr ⟨_, _, rfl, by simp [e1.2.1]⟩
theorem rd_acts {cs : List Value} (h : Rd enc Tryz.prog w 22 cs) : ∃ a l c xs, cs = [.slice a l c] ∧ Go.V.Rows 4 RAct w a l xs ∧ l ≤ maxLen :=
  h.slice (e := 33) (by kernel_rfl) (by kernel_rfl) (by omega) rd_act
theorem RdA.of {a : Option Addr} {l : Nat} {xs : List (Int × Int × Int × Int)} (h : Go.V.Rows 4 RAct w a l xs) : RdA (fun _ => True) w a l := fun i hi => by
  obtain ⟨b, o, ha, c0, c1, c2, c3⟩ := h.get (i := i) (by rw [← h.1]; exact hi)
  have hb : b < w.heap.size := block_lt_of_cell c0
  exact ⟨b, o, ha, hb, _, _, _, _, trivial, c0, c1, c2, c3⟩
end
end Go.Proofs.YtgggbmikmmljcaaGreat
