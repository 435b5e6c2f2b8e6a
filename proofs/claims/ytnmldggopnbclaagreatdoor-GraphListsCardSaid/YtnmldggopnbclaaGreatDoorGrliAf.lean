/- A part of the proof: plain forms of functions and laws about them. -/
import Derived.Test.YtnmldggopnbclaaGreatDoorGrliAe
namespace Go.V
open Go.RowKit (Below)
section
variable {P : Program} {T : Tab} (hT : T.Ok P)
theorem Inv.start (ops : Array Oper) (n : Nat) : Inv ops n (Array.replicate ops.size false) := by
 have h : ∀ j, (Array.replicate ops.size false).getD j false = false := fun j => by
  rw [Array.getD_eq_getD_getElem?, Array.getElem?_replicate]; split <;> rfl
 exact ⟨by simp, (fun j o _ hl => by rw [h j] at hl; cases hl), fun t _ => h t⟩
theorem unl_start (ops : Array Oper) (n : Nat) : unl n (Array.replicate ops.size false) = n := by
 unfold unl
 rw [List.filter_eq_self.2, List.length_range]
 intro i _
 rw [Array.getD_eq_getD_getElem?, Array.getElem?_replicate]; split <;> rfl
def pureAt (T : Tab) (ops : Array Oper) (i : Nat) : Bool := match ops[i]? with | some o => isPure T o.op | none => false
def needAt (T : Tab) (ops : Array Oper) (cl : Nat → Bool) (i : Nat) : Bool := match ops[i]? with | some o => isPure T o.op && (!(cl i) || isLoad o.op) | none => false
def SS (T : Tab) (ops : Array Oper) (cl : Nat → Bool) (S : World → Prop) (i : Nat) (w w' : World) : Prop := w' = w ∨ (match cl i with | false => S w' | true => pureAt T ops i = false)
def Pend (T : Tab) (ops : Array Oper) (cl : Nat → Bool) (S : World → Prop) (n : Nat) (listed : Array Bool) (w : World) : Prop := ∀ k, k < n → needAt T ops cl k = true → listed.getD k false = false → S w
def ClOk (T : Tab) (ops : Array Oper) (cl : Nat → Bool) (n : Nat) : Prop :=
 ∀ i, cl i = true → pureAt T ops i = true ∨ ∀ (k : Nat) (listed : Array Bool), Inv ops n listed → i ∈ Region.ready .any ops listed → k < n → k ≠ i → needAt T ops cl k = true → listed.getD k false = true
theorem ClOk.none (T : Tab) (ops : Array Oper) (n : Nat) : ClOk T ops (fun _ => false) n := fun i h => by cases h
theorem ClOk.clB (T : Tab) (ops : Array Oper) (n : Nat) : ClOk T ops (clB T ops n) n := fun i h => by
 unfold V.clB at h
 rw [Bool.or_eq_true] at h
 rcases h with h | h
 ·exact .inl h
 ·refine .inr fun k listed inv hi hk hki hn => ?_
  unfold needAt at hn
  split at hn
  ·rename_i o ho
   refine clearB_spec h inv hi hk hki ho ?_
   simp only [Bool.and_eq_true, Bool.or_eq_true, Bool.not_eq_true'] at hn
   rcases hn.2 with h2 | h2
   ·unfold V.clB at h2; rw [ho] at h2; simp only [hn.1, Bool.true_or] at h2; cases h2
   ·exact h2
  ·cases hn
theorem Pend.set {T : Tab} {ops : Array Oper} {cl : Nat → Bool} {S : World → Prop} {n i : Nat} {listed : Array Bool} {w w' : World} (hcl : ClOk T ops cl n) (inv : Inv ops n listed) (hi : i ∈ Region.ready .any ops listed) (h : Pend T ops cl S n listed w) (hs : SS T ops cl S i w w') :
  Pend T ops cl S n (listed.setIfInBounds i true) w' := fun k hk hn hu => by
 have hki : k ≠ i := fun e => by
  subst e
  rw [Array.getD_eq_getD_getElem?, Array.getElem?_setIfInBounds, if_pos rfl, if_pos (ready_lt hi)] at hu; cases hu
 rw [getD_set_ne false (Ne.symm hki)] at hu
 rcases hs with rfl | hs
 ·exact h k hk hn hu
 ·split at hs
  ·exact hs
  ·rename_i hc
   rcases hcl i hc with hp | hp
   ·rw [hp] at hs; cases hs
   ·rw [hp k listed inv hi hk hki hn] at hu; cases hu
include hT in
theorem anyV_sound {N n : Nat} {D : Nat → Bool} {ops : Array Oper} {w0 : World} {cl : Nat → Bool} {S : World → Prop} {K : Env → World → Prop} {Q : Exit → Act → World → Prop} {a0 : Act} (ht : TailWaits ops n) (hcl : ClOk T ops cl n)
  (hsel : ∀ (j : Nat) (o : Oper) cs b, ops[j]? = some o → o.op ≠ .select cs b) (hW : Within N D ops.toList) (hQ : ∀ c a a' w, Q (.panic c) a w → Q (.panic c) a' w) :
  ∀ (p : Plan) (listed : Array Bool) (rs : Option (List Nat)) (a : Act) (e : Env) (w : World), (noTake p = true ∨ ∀ w, S w → Cel w0 w) → planOk T ops n p listed rs = true → Inv ops n listed → (∀ l, rs = some l → ∀ i ∈ l, i ∈ Region.ready .any ops listed) →
   Ag N a e → Same D a0 a → Pend T ops cl S n listed w → anyV P T ops w0 cl S p e K w →
   match rs with
   | none => unl n listed = p.depth ∧ wpN P ops Q (SS T ops cl S) (fun a w => ∃ e, Ag N a e ∧ Same D a0 a ∧ K e w) p.depth listed a w
   | some l => unl n listed = p.depth ∧ ∃ d, p.depth = d + 1 ∧ ∀ i ∈ l, wpOp P ops Q i (fun a' w' => SS T ops cl S i w w' ∧ wpN P ops Q (SS T ops cl S) (fun a w => ∃ e, Ag N a e ∧ Same D a0 a ∧ K e w) d (listed.setIfInBounds i true) a' w') a w := by
 have hWi : ∀ {i : Nat} {o : Oper}, ops[i]? = some o → ∀ t, o.dst = some t → t < N ∧ D t = true := fun ho => hW _ (by simpa using Array.mem_of_getElem? ho)
 -- one operation, then a plan
 have step : ∀ {i : Nat} {p : Plan} {listed : Array Bool} {a : Act} {e : Env} {w : World}, i ∈ Region.ready .any ops listed → i < n → Inv ops n listed → Ag N a e → Same D a0 a → Pend T ops cl S n listed w →
   (∀ a e w, Ag N a e → Same D a0 a → Pend T ops cl S n (listed.setIfInBounds i true) w → anyV P T ops w0 cl S p e K w → wpN P ops Q (SS T ops cl S) (fun a w => ∃ e, Ag N a e ∧ Same D a0 a ∧ K e w) p.depth (listed.setIfInBounds i true) a w) →
   (match ops[i]? with
    | some o => guardV ops o.guard e (fun e => opV P T o e (fun v w' => cndK (cl i) (S w') (anyV P T ops w0 cl S p (setD e o.dst v) K w')) w) (fun e => anyV P T ops w0 cl S p (setD e o.dst undef) K w)
    | none => False) →
   wpOp P ops Q i (fun a' w' => SS T ops cl S i w w' ∧ wpN P ops Q (SS T ops cl S) (fun a w => ∃ e, Ag N a e ∧ Same D a0 a ∧ K e w) p.depth (listed.setIfInBounds i true) a' w') a w := by
  intro i p listed a e w hr hin inv hA hS hB ih h
  split at h
  case h_2 => exact h.elim
  rename_i o ho
  have hWo := hWi ho
  obtain ⟨e', hA', h⟩ := guardV_sound hA h
  unfold wpOp
  rw [ho]
  have fin : ∀ {v : Value} {w' : World}, SS T ops cl S i w w' → anyV P T ops w0 cl S p (setD e' o.dst v) K w' →
    SS T ops cl S i w w' ∧ wpN P ops Q (SS T ops cl S) (fun a w => ∃ e, Ag N a e ∧ Same D a0 a ∧ K e w) p.depth (listed.setIfInBounds i true) (a.put o.dst v) w' := fun hs hK =>
   ⟨hs, ih _ _ _ (hA'.put _ _ fun t ht => (hWo t ht).1) (hS.put _ _ fun t ht => (hWo t ht).2) (hB.set hcl inv hr hs) hK⟩
  rcases h with ⟨hw, h⟩ | ⟨hw, h⟩
  ·simp only [hw, if_true]
   cases hp : isPure T o.op with
   | true =>
    unfold opV at h
    rw [hp] at h
    obtain ⟨v, hF, hl⟩ := pureV_sound hT hA' h
    have hg : Goes P (execOp a.eval o) (fun v' w' => w' = w ∧ v' = v) w := .inl ⟨v, w, hl w (Cel.refl _) |> fun _ => ?_, rfl, rfl⟩
    rotate_left
    ·exact hl w (Cel.refl _)
    refine .inl (hg.wp fun v' w' hK => ?_)
    obtain ⟨rfl, rfl⟩ := hK
    refine fin (.inl rfl) ?_
    cases hc : cl i with
    | true => rw [hc] at hF; exact hF
    | false => rw [hc] at hF; exact hF.2
   | false =>
    refine .inl ((opV_sound hT hA' h).wp fun v w' hK => ?_)
    have hpa : pureAt T ops i = false := by unfold pureAt; rw [ho]; exact hp
    cases hc : cl i with
    | true => rw [hc] at hK; exact fin (.inr (by rw [hc]; exact hpa)) hK
    | false => rw [hc] at hK; exact fin (.inr (by rw [hc]; exact hK.1)) hK.2
  ·simp only [hw, Bool.false_eq_true, if_false]
   exact fin (.inl rfl) h
 intro p
 induction p with
 | done =>
  intro listed rs a e w _ hok inv _ hA hS hB h
  cases rs with
  | some l => simp [planOk] at hok
  | none =>
   simp only [planOk] at hok
   refine ⟨?_, ⟨e, hA, hS, h⟩⟩
   show unl n listed = 0
   unfold unl
   rw [List.length_eq_zero_iff, List.filter_eq_nil_iff]
   intro i hi
   have := List.all_eq_true.1 hok i hi
   rw [this]; simp
 | take i p ih =>
  intro listed rs a e w hnt hok inv _ hA hS hB h
  have hC : ∀ w, S w → Cel w0 w := by rcases hnt with h | h; (· cases h); exact h
  cases rs with
  | some l => simp [planOk] at hok
  | none =>
   simp only [planOk, Bool.and_eq_true] at hok
   obtain ⟨⟨⟨⟨h1, h2⟩, h3⟩, h4⟩, h5⟩ := hok
   have hin : i < n := by simpa [Nat.blt_eq] using h1
   have hr := memB_mem h2
   simp only [anyV] at h
   split at h
   case h_2 => exact h.elim
   rename_i o ho
   rw [ho] at h4
   have hWo := hWi ho
   have inv' := inv.set hr hin
   have hui := unB (mem_ready.1 hr).1
   have hu := unl_set hin (ready_lt hr) hui
   obtain ⟨e', hA', h⟩ := guardV_sound hA h
   -- what the operation asks of the world as long as it has not come up
   have go : ∀ v, (∃ R : World → Prop, YieldsIf P ops R o v a ∧ R w ∧ (∀ w', S w' → R w') ∧ ((∀ w', R w') ∨ needAt T ops cl i = true)) → anyV P T ops w0 cl S p (setD e' o.dst v) K w →
     unl n listed = p.depth + 1 ∧ wpN P ops Q (SS T ops cl S) (fun a w => ∃ e, Ag N a e ∧ Same D a0 a ∧ K e w) (p.depth + 1) listed a w := by
    rintro v ⟨R, hy, hRw, hSR, hR⟩ hv
    obtain ⟨g1, g2⟩ := ih (listed.setIfInBounds i true) none _ _ w (.inr hC) h5 inv' (fun l hl => by cases hl) (hA'.put o.dst v fun t ht => (hWo t ht).1) (hS.put o.dst v fun t ht => (hWo t ht).2) (hB.set hcl inv hr (.inl rfl)) hv
    refine ⟨by omega, wpN_first ht ho hsel (fun c a' w' hq => hQ c _ _ w' hq) (fun w _ => .inl rfl) (fun j listed2 inv2 hj hjn hji hu2 w1 w2 hR1 hs => ?_) _ _ _ _ inv (by omega) hin (Region.free_spec ho h3) hr hy hRw g2⟩
    rcases hs with rfl | hs
    ·exact hR1
    ·split at hs
     ·exact hSR _ hs
     ·rename_i hc
      rcases hR with hR | hR
      ·exact hR _
      ·rcases hcl j hc with hp | hp
       ·rw [hp] at hs; cases hs
       ·rw [hp i listed2 inv2 hj hin (Ne.symm hji) hR] at hu2; cases hu2
   rcases h with ⟨hw, h⟩ | ⟨hw, h⟩
   ·cases hne : needAt T ops cl i with
    | true =>
     obtain ⟨v, hF, hl⟩ := pureV_sound hT hA' h
     exact go v ⟨S, .inl ⟨hw, fun w' hw' => hl w' (hC w' hw')⟩, hB i hin hne hui, fun _ h => h, .inr hne⟩ hF
    | false =>
     have hnl : isLoad o.op = false := by
      unfold needAt at hne; rw [ho] at hne
      simp only [h4, Bool.true_and, Bool.or_eq_false_iff] at hne
      exact hne.2
     obtain ⟨v, hF, hl⟩ := pureV_sound hT hA' (pureV_const (w' := { w with heap := #[] }) hnl h)
     exact go v ⟨fun _ => True, .inl ⟨hw, fun w' _ => hl w' fun p u hp => by simp [World.cell?] at hp⟩, trivial, fun _ _ => trivial, .inl fun _ => trivial⟩ hF
   ·exact go undef ⟨fun _ => True, .inr ⟨hw, rfl⟩, trivial, fun _ _ => trivial, .inl fun _ => trivial⟩ h
 | one i p ih =>
  intro listed rs a e w hnt hok inv hrs hA hS hB h
  have hnt : noTake p = true ∨ ∀ w, S w → Cel w0 w := hnt
  simp only [planOk, Bool.and_eq_true] at hok
  obtain ⟨⟨h1, h2⟩, h5⟩ := hok
  have hin : i < n := by simpa [Nat.blt_eq] using h1
  have heq := listEq_eq h2
  have hr : i ∈ Region.ready .any ops listed := by
   cases rs with
   | none => simp only [Option.getD_none] at heq; rw [heq]; simp
   | some l => simp only [Option.getD_some] at heq; exact hrs l rfl i (by rw [heq]; simp)
  have inv' := inv.set hr hin
  have hu := unl_set hin (ready_lt hr) (unB (mem_ready.1 hr).1)
  have g := step hr hin inv hA hS hB (fun a e w hA hS hB hv => (ih (listed.setIfInBounds i true) none a e w hnt h5 inv' (fun l hl => by cases hl) hA hS hB hv).2) h
  have hdep : unl n (listed.setIfInBounds i true) = p.depth := by
   -- the count is the plan's own
   have key : ∀ (p : Plan) (listed : Array Bool) (rs : Option (List Nat)), planOk T ops n p listed rs = true → (∀ i, i < n → i < listed.size) → (∀ l, rs = some l → ∀ i ∈ l, i ∈ Region.ready .any ops listed) → unl n listed = p.depth := by
    intro p
    induction p with
    | done =>
     intro listed rs hok _ _
     cases rs with
     | some l => simp [planOk] at hok
     | none =>
      simp only [planOk] at hok
      show unl n listed = 0
      unfold unl
      rw [List.length_eq_zero_iff, List.filter_eq_nil_iff]
      intro i hi
      have := List.all_eq_true.1 hok i hi
      rw [this]; simp
    | take i p ih =>
     intro listed rs hok hsz _
     cases rs with
     | some l => simp [planOk] at hok
     | none =>
      simp only [planOk, Bool.and_eq_true] at hok
      obtain ⟨⟨⟨⟨h1, h2⟩, h3⟩, h4⟩, h5⟩ := hok
      have hin : i < n := by simpa [Nat.blt_eq] using h1
      have := unl_set hin (hsz i hin) (unB (mem_ready.1 (memB_mem h2)).1)
      have := ih _ none h5 (fun i hi => by simpa using hsz i hi) (fun l hl => by cases hl)
      simp only [Plan.depth]; omega
    | one i p ih =>
     intro listed rs hok hsz hrs
     simp only [planOk, Bool.and_eq_true] at hok
     obtain ⟨⟨h1, h2⟩, h5⟩ := hok
     have hin : i < n := by simpa [Nat.blt_eq] using h1
     have heq := listEq_eq h2
     have hr : i ∈ Region.ready .any ops listed := by
      cases rs with
      | none => simp only [Option.getD_none] at heq; rw [heq]; simp
      | some l => simp only [Option.getD_some] at heq; exact hrs l rfl i (by rw [heq]; simp)
     have := unl_set hin (hsz i hin) (unB (mem_ready.1 hr).1)
     have := ih _ none h5 (fun i hi => by simpa using hsz i hi) (fun l hl => by cases hl)
     simp only [Plan.depth]; omega
    | both i p q ihp ihq =>
     intro listed rs hok hsz hrs
     simp only [planOk, Bool.and_eq_true] at hok
     obtain ⟨⟨⟨h1, h2⟩, h3⟩, h5⟩ := hok
     have hin : i < n := by simpa [Nat.blt_eq] using h1
     split at h2
     ·rename_i j r hjr
      simp only [Bool.and_eq_true] at h2
      have hj := Nat.eq_of_beq_eq_true h2.1
      subst hj
      have hr : j ∈ Region.ready .any ops listed := by
       cases rs with
       | none => simp only [Option.getD_none] at hjr; rw [hjr]; simp
       | some l => simp only [Option.getD_some] at hjr; exact hrs l rfl j (by rw [hjr]; simp)
      have := unl_set hin (hsz j hin) (unB (mem_ready.1 hr).1)
      have := ihp _ none h5 (fun i hi => by simpa using hsz i hi) (fun l hl => by cases hl)
      simp only [Plan.depth]; omega
     ·cases h2
   refine key p _ none h5 (fun i hi => ?_) (fun l hl => by cases hl)
   rw [inv'.size]; rcases ht with rfl | ⟨h, _⟩ <;> omega
  cases rs with
  | none =>
   simp only [Option.getD_none] at heq
   exact ⟨by simp only [Plan.depth]; omega, by rw [heq]; simp, fun j hj => by rw [heq] at hj; simp at hj; subst hj; exact g⟩
  | some l =>
   simp only [Option.getD_some] at heq
   exact ⟨by simp only [Plan.depth]; omega, p.depth, rfl, fun j hj => by rw [heq] at hj; simp at hj; subst hj; exact g⟩
 | both i p q ihp ihq =>
  intro listed rs a e w hnt hok inv hrs hA hS hB h
  have hntp : noTake p = true ∨ ∀ w, S w → Cel w0 w := hnt.imp (fun h => by simp only [noTake, Bool.and_eq_true] at h; exact h.1) id
  have hntq : noTake q = true ∨ ∀ w, S w → Cel w0 w := hnt.imp (fun h => by simp only [noTake, Bool.and_eq_true] at h; exact h.2) id
  simp only [planOk, Bool.and_eq_true] at hok
  obtain ⟨⟨⟨h1, h2⟩, h3⟩, h5⟩ := hok
  have hin : i < n := by simpa [Nat.blt_eq] using h1
  split at h2
  case h_2 => cases h2
  rename_i j r hjr
  simp only [Bool.and_eq_true] at h2
  have hj := Nat.eq_of_beq_eq_true h2.1
  subst hj
  have hall : ∀ k ∈ (j :: r), k ∈ Region.ready .any ops listed := by
   cases rs with
   | none => simp only [Option.getD_none] at hjr; rw [hjr]; exact fun k hk => hk
   | some l => simp only [Option.getD_some] at hjr; rw [← hjr]; exact hrs l rfl
  have hr := hall j List.mem_cons_self
  have inv' := inv.set hr hin
  have hu := unl_set hin (ready_lt hr) (unB (mem_ready.1 hr).1)
  have hdq := Nat.eq_of_beq_eq_true h3
  have g := step hr hin inv hA hS hB (fun a e w hA hS hB hv => (ihp (listed.setIfInBounds j true) none a e w hntp h5 inv' (fun l hl => by cases hl) hA hS hB hv).2) h.1
  obtain ⟨gq, d, hd, g'⟩ := ihq listed (some r) a e w hntq h2.2 inv (fun l hl k hk => by cases hl; exact hall k (List.mem_cons_of_mem _ hk)) hA hS hB h.2
  have hdd : d = p.depth := by omega
  subst hdd
  have both : ∀ k ∈ (j :: r), wpOp P ops Q k (fun a' w' => SS T ops cl S k w w' ∧ wpN P ops Q (SS T ops cl S) (fun a w => ∃ e, Ag N a e ∧ Same D a0 a ∧ K e w) p.depth (listed.setIfInBounds k true) a' w') a w := by
   intro k hk
   rcases List.mem_cons.1 hk with rfl | hk
   ·exact g
   ·exact g' k hk
  cases rs with
  | none =>
   simp only [Option.getD_none] at hjr
   exact ⟨by simp only [Plan.depth]; omega, by rw [hjr]; simp, fun k hk => by rw [hjr] at hk; exact both k hk⟩
  | some l =>
   simp only [Option.getD_some] at hjr
   exact ⟨by simp only [Plan.depth]; omega, p.depth, rfl, fun k hk => by rw [hjr] at hk; exact both k hk⟩
def seqOk (ops : Array Oper) : Nat → Nat → Array Bool → Bool
 | 0, _, listed => listEq (Region.ready .any ops listed) []
 | g + 1, k, listed => listEq (Region.ready .any ops listed) [k] && seqOk ops g (k + 1) (listed.setIfInBounds k true)
theorem tail_sound {ops : Array Oper} {Q : Exit → Act → World → Prop} : ∀ (l : List Oper) (k : Nat) (listed : Array Bool) (a : Act) (w : World), (∀ j, l[j]? = ops[k + j]?) →
  seqOk ops l.length k listed = true → wpList P ops Q l a w → wpAny P .any ops Q l.length listed a w
 | [], _, _, _, _, _, hB, h => ⟨listEq_eq hB, h⟩
 | o :: l, k, listed, a, w, hl, hB, h => by
  have h0 : ops[k]? = some o := by simpa using (hl 0).symm
  simp only [List.length_cons, seqOk, Bool.and_eq_true] at hB
  have hr := listEq_eq hB.1
  refine ⟨(fun h1 => by rw [hr] at h1; cases h1), fun i hi => ?_⟩
  rw [hr] at hi
  simp only [List.mem_singleton] at hi
  subst hi
  have hw : wpOp P ops Q i (wpList P ops Q l) a w := by
   unfold wpOp
   rw [h0]
   exact h
  exact wpOp_mono (fun a' w' h' => tail_sound l (i + 1) _ a' w' (fun j => by have := hl (j + 1); simpa [Nat.add_assoc, Nat.add_comm 1 j] using this) hB.2 h') hw
def headArr (ops : Array Oper) (n : Nat) : Array Bool := ((List.range ops.size).map fun i => Nat.blt i n).toArray
theorem headArr_eq {ops : Array Oper} {n : Nat} {listed : Array Bool} (inv : Inv ops n listed) (hu : unl n listed = 0) : listed = headArr ops n := by
 have h := unl_zero hu
 apply Array.ext
 ·simp [headArr, inv.size]
 ·intro i h1 h2
  have hg : ∀ b, listed.getD i false = b → listed[i] = b := fun b hb => by
   rw [Array.getD_eq_getD_getElem?, Array.getElem?_eq_getElem h1] at hb; exact hb
  simp only [headArr, List.getElem_toArray, List.getElem_map, List.getElem_range]
  rcases Nat.lt_or_ge i n with hin | hin
  ·rw [hg _ (h i hin)]; exact (by rw [Nat.blt_eq]; exact hin : Nat.blt i n = true).symm
  ·rw [hg _ (inv.tail i hin)]
   cases hq : Nat.blt i n with
   | false => rfl
   | true => rw [Nat.blt_eq] at hq; omega
def regOk (T : Tab) (ops : Array Oper) (n : Nat) (p : Plan) : Bool :=
 Region.noSelect ops && Nat.ble n ops.size && (Nat.beq n ops.size || tailB ops n) && seqOk ops (ops.size - n) n (headArr ops n) && planOk T ops n p (Array.replicate ops.size false) none
/-! ### The same check over a number whose bits tell what has come up -/
def readyM (ops : Array Oper) (m : Nat) : List Nat := (List.range ops.size).filter fun i => !m.testBit i && Nat.beq (predMask ops i &&& m) (predMask ops i)
def freeM (ops : Array Oper) (m i : Nat) : Bool :=
 match ops[i]? with
 | none => false
 | some oi => (List.range ops.size).all fun j => j == i || m.testBit j || match ops[j]? with
   | some oj => oj.after.any (fun e => Region.binds .any e && e.on == i) || oi.apart ops oj
   | none => true
def planM (T : Tab) (ops : Array Oper) (n : Nat) : Plan → Nat → Option (List Nat) → Bool
 | .done, m, none => (List.range n).all fun i => m.testBit i
 | .done, _, some _ => false
 | .take i p, m, none => Nat.blt i n && memB i (readyM ops m) && freeM ops m i && (match ops[i]? with | some o => isPure T o.op | none => false) && planM T ops n p (m ||| 2 ^ i) none
 | .take _ _, _, some _ => false
 | .one i p, m, rs => Nat.blt i n && listEq (rs.getD (readyM ops m)) [i] && planM T ops n p (m ||| 2 ^ i) none
 | .both i p q, m, rs => Nat.blt i n && (match rs.getD (readyM ops m) with | j :: r => Nat.beq j i && planM T ops n q m (some r) | [] => false) && Nat.beq (p.depth + 1) q.depth && planM T ops n p (m ||| 2 ^ i) none
structure MOk (ops : Array Oper) (m : Nat) (listed : Array Bool) : Prop where
 size : listed.size = ops.size
 bit : ∀ i, listed.getD i false = m.testBit i
theorem MOk.bitT {ops : Array Oper} {m : Nat} {listed : Array Bool} (h : MOk ops m listed) {i : Nat} (hi : i < ops.size) : listed.getD i true = m.testBit i := by
 have hi' : i < listed.size := by rw [h.size]; exact hi
 rw [← h.bit i, Array.getD_eq_getD_getElem?, Array.getD_eq_getD_getElem?, Array.getElem?_eq_getElem hi']; rfl
theorem MOk.set {ops : Array Oper} {m i : Nat} {listed : Array Bool} (h : MOk ops m listed) (hi : i < ops.size) : MOk ops (m ||| 2 ^ i) (listed.setIfInBounds i true) := by
 refine ⟨by simp [h.size], fun j => ?_⟩
 rw [Nat.testBit_or, Nat.testBit_two_pow, ← h.bit j, Array.getD_eq_getD_getElem?, Array.getD_eq_getD_getElem?, Array.getElem?_setIfInBounds]
 by_cases e : i = j
 ·subst e
  have hi' : i < listed.size := by rw [h.size]; exact hi
  simp [hi']
 ·simp [e]
theorem foldMask {l : List Edge} : ∀ {m k : Nat}, (l.foldl (fun m e => bif Region.binds .any e then m ||| 2 ^ e.on else m) m).testBit k = (m.testBit k || l.any fun e => Region.binds .any e && Nat.beq e.on k) := by
 induction l with
 | nil => intro m k; simp
 | cons e l ih =>
  intro m k
  rw [List.foldl_cons, ih, List.any_cons]
  cases hb : Region.binds .any e with
  | false => simp
  | true =>
   simp only [cond_true, Nat.testBit_or, Nat.testBit_two_pow, Bool.true_and]
   have : decide (e.on = k) = Nat.beq e.on k := by
    by_cases h : e.on = k
    ·subst h; simp
    ·rw [decide_eq_false h]; symm; rw [Bool.eq_false_iff]; exact fun h2 => h (Nat.eq_of_beq_eq_true h2)
   rw [this, Bool.or_assoc]
theorem subMask {a b : Nat} : Nat.beq (a &&& b) a = true ↔ ∀ k, a.testBit k = true → b.testBit k = true := by
 constructor
 ·intro h k hk
  have h := Nat.eq_of_beq_eq_true h
  have : (a &&& b).testBit k = a.testBit k := by rw [h]
  rw [Nat.testBit_and, hk, Bool.true_and] at this; exact this
 ·intro h
  have : a &&& b = a := Nat.eq_of_testBit_eq fun k => by
   rw [Nat.testBit_and]
   cases hk : a.testBit k
   ·rfl
   ·rw [h k hk]; rfl
  rw [this]; exact Nat.beq_refl a
theorem readyM_eq {ops : Array Oper} {m : Nat} {listed : Array Bool} (h : MOk ops m listed) : readyM ops m = Region.ready .any ops listed := by
 unfold readyM Region.ready
 refine List.filter_congr fun i hi => ?_
 have hi := List.mem_range.1 hi
 rw [h.bitT hi, Array.getElem?_eq_getElem hi]
 congr 1
 rw [Bool.eq_iff_iff, subMask]
 simp only [predMask, Array.getElem?_eq_getElem hi, foldMask, Nat.zero_testBit, Bool.false_or, Option.map_some, Option.getD_some, Array.all_eq_true_iff_forall_mem, List.any_eq_true, Bool.and_eq_true, Bool.or_eq_true, Bool.not_eq_true']
 constructor
 ·intro hk e he
  cases hb : Region.binds .any e with
  | false => exact .inl rfl
  | true => exact .inr (by rw [h.bit]; exact hk e.on ⟨e, by simpa using he, hb, Nat.beq_refl _⟩)
 ·rintro hk k ⟨e, he, hb, ho⟩
  have ho := Nat.eq_of_beq_eq_true ho
  subst ho
  rcases hk e (by simpa using he) with h1 | h1
  ·rw [hb] at h1; cases h1
  ·rw [← h.bit]; exact h1
theorem freeM_eq {ops : Array Oper} {m i : Nat} {listed : Array Bool} (h : MOk ops m listed) : freeM ops m i = true → Region.free .any ops listed i = true := by
 unfold freeM Region.free
 cases ops[i]? with
 | none => exact id
 | some oi =>
  simp only [List.all_eq_true]
  intro hf j hj
  have := hf j hj
  rw [h.bitT (List.mem_range.1 hj)]; exact this
theorem planM_ok {T : Tab} {ops : Array Oper} {n : Nat} (hn : n ≤ ops.size) : ∀ (p : Plan) {m : Nat} {listed : Array Bool} {rs : Option (List Nat)}, MOk ops m listed → planM T ops n p m rs = true → planOk T ops n p listed rs = true := by
 intro p
 induction p with
 | done =>
  intro m listed rs h hp
  cases rs with
  | none =>
   simp only [planM, planOk, List.all_eq_true] at hp ⊢
   intro i hi; rw [h.bit]; exact hp i hi
  | some r => exact hp
 | take i p ih =>
  intro m listed rs h hp
  cases rs with
  | none =>
   simp only [planM, planOk, Bool.and_eq_true] at hp ⊢
   obtain ⟨⟨⟨⟨h1, h2⟩, h3⟩, h4⟩, h5⟩ := hp
   have hi := Nat.le_of_ble_eq_true h1
   exact ⟨⟨⟨⟨h1, by rw [← readyM_eq h]; exact h2⟩, freeM_eq h h3⟩, h4⟩, ih (h.set (by omega)) h5⟩
  | some r => exact hp
 | one i p ih =>
  intro m listed rs h hp
  simp only [planM, planOk, Bool.and_eq_true] at hp ⊢
  obtain ⟨⟨h1, h2⟩, h3⟩ := hp
  have hi := Nat.le_of_ble_eq_true h1
  exact ⟨⟨h1, by rw [← readyM_eq h]; exact h2⟩, ih (h.set (by omega)) h3⟩
 | both i p q ihp ihq =>
  intro m listed rs h hp
  simp only [planM, planOk, Bool.and_eq_true] at hp ⊢
  obtain ⟨⟨⟨h1, h2⟩, h3⟩, h4⟩ := hp
  have hi := Nat.le_of_ble_eq_true h1
  refine ⟨⟨⟨h1, ?_⟩, h3⟩, ihp (h.set (by omega)) h4⟩
  rw [← readyM_eq h]
  cases hr : rs.getD (readyM ops m) with
  | nil => rw [hr] at h2; cases h2
  | cons j r =>
   rw [hr] at h2
   simp only [Bool.and_eq_true] at h2 ⊢
   exact ⟨h2.1, ihq h h2.2⟩
def regOkM (T : Tab) (ops : Array Oper) (n : Nat) (p : Plan) : Bool :=
 Region.noSelect ops && Nat.ble n ops.size && (Nat.beq n ops.size || tailB ops n) && seqOk ops (ops.size - n) n (headArr ops n) && planM T ops n p 0 none
theorem regOkM_ok {T : Tab} {ops : Array Oper} {n : Nat} {p : Plan} (h : regOkM T ops n p = true) : regOk T ops n p = true := by
 simp only [regOkM, regOk, Bool.and_eq_true] at h ⊢
 obtain ⟨⟨⟨⟨h1, h2⟩, h3⟩, h4⟩, h5⟩ := h
 refine ⟨⟨⟨⟨h1, h2⟩, h3⟩, h4⟩, planM_ok (Nat.le_of_ble_eq_true h2) p ⟨by simp, fun i => ?_⟩ h5⟩
 rw [Array.getD_eq_getD_getElem?, Array.getElem?_replicate, Nat.zero_testBit]
 split <;> rfl
include hT in
theorem region_any {N n : Nat} {D : Nat → Bool} {id : Nat} {ops : Array Oper} {p : Plan} {cl : Nat → Bool} (hcl : ClOk T ops cl n) {e : Env} {K : Env → World → Prop} {Q : Exit → Act → World → Prop} {a : Act} {w v0 : World} (hv : Cel v0 w.drew) (hm : P.follows .mixedOrders = true)
  (hok : regOk T ops n p = true) (hW : Within N D ops.toList) (hQ : ∀ c a a' w, Q (.panic c) a w → Q (.panic c) a' w) (hA : Ag N a e)
  (h : anyV P T ops v0 cl (fun w' => Cel v0 w') p e (fun e' w' => opsV P T ops (ops.toList.drop n) e' K w') w.drew) (hK : ∀ a' e' w', Ag N a' e' → Same D a a' → K e' w' → Q .normal a' w') :
  (Code.region id ops true).wp P Q a w := by
 simp only [regOk, Bool.and_eq_true] at hok
 obtain ⟨⟨⟨⟨h1, h2⟩, h3⟩, h4⟩, h5⟩ := hok
 have hn := Nat.le_of_ble_eq_true h2
 have ht : TailWaits ops n := by
  simp only [Bool.or_eq_true] at h3
  rcases h3 with h3 | h3
  ·exact .inl (Nat.eq_of_beq_eq_true h3)
  ·rcases Nat.lt_or_ge n ops.size with hlt | hge
   ·exact .inr ⟨hlt, h3⟩
   ·exact .inl (by omega)
 refine wp_region_any hm ?_
 rw [World.drew_eq]
 obtain ⟨hu, hN⟩ := anyV_sound hT ht hcl (Region.noSelect_spec h1) hW hQ p _ none a e w.drew (.inr fun _ h => h) h5 (Inv.start ops n) (fun l hl => by cases hl) hA (Same.refl D a) (fun _ _ _ _ => hv) h
 rw [unl_start] at hu
 rw [← hu] at hN
 have := wpAny_of_N ht (g := ops.size - n) (L := fun a' w' => ∃ e', Ag N a' e' ∧ Same D a a' ∧ opsV P T ops (ops.toList.drop n) e' K w') (Q := Q) ?_ n _ a w.drew (Inv.start ops n) (unl_start ops n) hN
 ·rw [show n + (ops.size - n) = ops.size by omega] at this
  exact this
 ·rintro listed a' w' inv hu' ⟨e', hA', hS', h'⟩
  rw [headArr_eq inv hu']
  have hl : (ops.toList.drop n).length = ops.size - n := by simp
  rw [← hl] at h4 ⊢
  refine tail_sound _ n _ a' w' (fun j => by simp) h4 ?_
  exact opsV_sound hT _ _ _ _ (fun o ho => hW o (List.mem_of_mem_drop ho)) hA' hS' h' hK
def regOk2 (T : Tab) (ops : Array Oper) (n : Nat) (p q : Plan) : Bool :=
 Region.noSelect ops && Nat.ble n ops.size && (Nat.beq n ops.size || tailB ops n) && listEq (Region.ready .any ops (headArr ops ops.size)) [] && planOk T ops n p (Array.replicate ops.size false) none &&
  (planOk T ops ops.size q (headArr ops n) none && noTake q && Nat.beq q.depth (ops.size - n))
include hT in
theorem region_any2 {N n : Nat} {D : Nat → Bool} {id : Nat} {ops : Array Oper} {p q : Plan} {e : Env} {K : Env → World → Prop} {Q : Exit → Act → World → Prop} {a : Act} {w : World} (hm : P.follows .mixedOrders = true)
  (hok : regOk2 T ops n p q = true) (hW : Within N D ops.toList) (hQ : ∀ c a a' w, Q (.panic c) a w → Q (.panic c) a' w) (hA : Ag N a e)
  (h : anyV P T ops w.drew (fun _ => false) (fun w' => Cel w.drew w') p e (fun e' w' => anyV P T ops w' (fun _ => false) (fun _ => True) q e' K w') w.drew) (hK : ∀ a' e' w', Ag N a' e' → Same D a a' → K e' w' → Q .normal a' w') :
  (Code.region id ops true).wp P Q a w := by
 simp only [regOk2, Bool.and_eq_true] at hok
 obtain ⟨⟨⟨⟨⟨h1, h2⟩, h3⟩, h4⟩, h5⟩, ⟨h6, h7⟩, h8⟩ := hok
 have hn := Nat.le_of_ble_eq_true h2
 have hd := Nat.eq_of_beq_eq_true h8
 have ht : TailWaits ops n := by
  simp only [Bool.or_eq_true] at h3
  rcases h3 with h3 | h3
  ·exact .inl (Nat.eq_of_beq_eq_true h3)
  ·rcases Nat.lt_or_ge n ops.size with hlt | hge
   ·exact .inr ⟨hlt, h3⟩
   ·exact .inl (by omega)
 refine wp_region_any hm ?_
 rw [World.drew_eq]
 obtain ⟨hu, hN⟩ := anyV_sound hT ht (ClOk.none T ops n) (Region.noSelect_spec h1) hW hQ p _ none a e w.drew (.inr fun _ h => h) h5 (Inv.start ops n) (fun l hl => by cases hl) hA (Same.refl D a) (fun _ _ _ _ => Cel.refl _) h
 rw [unl_start] at hu
 rw [← hu] at hN
 have := wpAny_of_N ht (g := ops.size - n) (L := fun a' w' => ∃ e', Ag N a' e' ∧ Same D a a' ∧ anyV P T ops w' (fun _ => false) (fun _ => True) q e' K w') (Q := Q) ?_ n _ a w.drew (Inv.start ops n) (unl_start ops n) hN
 ·rw [show n + (ops.size - n) = ops.size by omega] at this
  exact this
 ·rintro listed a' w' inv hu' ⟨e', hA', hS', h'⟩
  have hl := headArr_eq inv hu'
  have inv2 : Inv ops ops.size listed := ⟨inv.size, inv.down, fun t htt => inv.tail t (by omega)⟩
  obtain ⟨hu2, hN2⟩ := anyV_sound hT (.inl rfl) (ClOk.none T ops ops.size) (Region.noSelect_spec h1) hW hQ q listed none a' e' w' (.inl h7) (by rw [hl]; exact h6) inv2 (fun l hl => by cases hl) hA' (Same.refl D a') (fun _ _ _ _ => trivial) h'
  rw [hd] at hu2 hN2
  refine wpAny_of_N (n := ops.size) (.inl rfl) (g := 0) (L := fun a'' w'' => ∃ e'', Ag N a'' e'' ∧ Same D a' a'' ∧ K e'' w'') (Q := Q) ?_ (ops.size - n) listed a' w' inv2 hu2 hN2
  rintro listed2 a2 w2 inv3 hu3 ⟨e2, hA2, hS2, h2⟩
  rw [headArr_eq inv3 hu3]
  exact ⟨listEq_eq h4, hK a2 e2 w2 hA2 (hS'.trans hS2) h2⟩
end
/-! ### Code -/
inductive Ann where
 | nil
 | two (x y : Ann)
 | cut (ms : List (Nat × Sh)) (keep : List Nat) (x y : Ann)
 | one (x : Ann)
 | loop (ms : List (Nat × Sh)) (keep : List Nat) (x : Ann)
 | any (n : Nat) (p : Plan)
 | any2 (n : Nat) (p q : Plan)
 | anyS (n : Nat) (p : Plan)
 | anyC (n : Nat) (p : Plan)
 | anyD (n : Nat) (p : Plan)
def CurC (X : Type) : Cell → Type
 | .int _ => Int → X
 | .bool => Bool → X
 | .str => ByteArray → X
 | .slice => Option Addr → Nat → Nat → X
 | .ptr => Option Addr → X
 | .map => Option Nat → X
 | .fn => FuncId → X
 | .clo => FuncId → Array Value → X
 | .any => Value → X
def CurCs (X : Type) : List Cell → Type
 | [] => X
 | c :: cs => CurC (CurCs X cs) c
def CurS (X : Type) : Sh → Type
 | .one c => CurC X c
 | .agg cs => CurCs X cs
 | .row _ => Array Value → X
def Cur (X : Type) : List Sh → Type
 | [] => X
 | s :: ss => CurS (Cur X ss) s
def ofX {X : Type} : Option X → (X → Prop) → Prop
 | some x, F => F x
 | none, _ => False
def apC {X : Type} : (c : Cell) → CurC X c → Value → Option X
 | .int k, f, .int j n => match decide (k = j) with | true => some (f n) | false => none
 | .bool, f, .bool b => some (f b)
 | .str, f, .string s => some (f s)
 | .slice, f, .slice a l c => some (f a l c)
 | .ptr, f, .pointer a => some (f a)
 | .map, f, .map r => some (f r)
 | .fn, f, .func (.func g) x y => match x.toList, y.toList with | [], [] => some (f g) | _, _ => none
 | .clo, f, .func (.func g) x y => match x.toList with | [] => some (f g y) | _ => none
 | .any, f, v => some (f v)
 | _, _, _ => none
def apCs {X : Type} : (cs : List Cell) → CurCs X cs → List Value → Option X
 | [], f, [] => some f
 | c :: cs, f, v :: vs => match apC c f v with | some g => apCs cs g vs | none => none
 | _, _, _ => none
def apS {X : Type} : (s : Sh) → CurS X s → Value → Option X
 | .one c, f, v => apC c f v
 | .agg cs, f, .agg vs => apCs cs f vs.toList
 | .row _, f, .agg vs => some (f vs)
 | _, _, _ => none
def apF {X : Type} : (ss : List Sh) → Cur X ss → List Value → Option X
 | [], f, [] => some f
 | s :: ss, f, v :: vs => match apS s f v with | some g => apF ss g vs | none => none
 | _, _, _ => none
def ap {X : Type} (ss : List Sh) (f : Cur X ss) (vs : List Value) (F : X → Prop) : Prop := ofX (apF ss f vs) F
def AllC : Cell → (Value → Prop) → Prop
 | .int k, F => ∀ n : Int, F (.int k n)
 | .bool, F => ∀ b : Bool, F (.bool b)
 | .str, F => ∀ s : ByteArray, F (.string s)
 | .slice, F => ∀ (a : Option Addr) (l c : Nat), F (.slice a l c)
 | .ptr, F => ∀ a : Option Addr, F (.pointer a)
 | .map, F => ∀ r : Option Nat, F (.map r)
 | .fn, F => ∀ f : FuncId, F (.func (.func f) #[] #[])
 | .clo, F => ∀ (f : FuncId) (cs : Array Value), F (.func (.func f) #[] cs)
 | .any, F => ∀ v : Value, F v
def AllCs : List Cell → (List Value → Prop) → Prop
 | [], F => F []
 | c :: cs, F => AllC c fun v => AllCs cs fun vs => F (v :: vs)
def AllS : Sh → (Value → Prop) → Prop
 | .one c, F => AllC c F
 | .agg cs, F => AllCs cs fun vs => F (.agg vs.toArray)
 | .row _, F => ∀ vs : Array Value, F (.agg vs)
def All : List Sh → (List Value → Prop) → Prop
 | [], F => F []
 | s :: ss, F => AllS s fun v => All ss fun vs => F (v :: vs)
theorem apC_all {X : Type} {c : Cell} {f : CurC X c} {v : Value} {x : X} (h : apC c f v = some x) {G : Value → Prop} (hG : AllC c G) : G v := by
 cases c <;> cases v <;> first | (cases h; done) | exact hG _ | exact hG _ _ _ | skip
 ·rename_i k j n
  simp only [apC] at h
  split at h
  ·rename_i hk; have := of_decide_eq_true hk; subst this; exact hG _
  ·cases h
 ·rename_i fn x y
  cases fn <;> first | (cases h; done) | skip
  simp only [apC] at h
  split at h
  ·rename_i h1 h2
   have e1 : x = #[] := by apply Array.ext'; simpa using h1
   have e2 : y = #[] := by apply Array.ext'; simpa using h2
   subst e1; subst e2
   exact hG _
  ·cases h
 ·rename_i fn x y
  cases fn <;> first | (cases h; done) | skip
  simp only [apC] at h
  split at h
  ·rename_i h1
   have e1 : x = #[] := by apply Array.ext'; simpa using h1
   subst e1
   exact hG _ _
  ·cases h
theorem apCs_all {X : Type} {cs : List Cell} : ∀ {f : CurCs X cs} {vs : List Value} {x : X}, apCs cs f vs = some x → ∀ {G : List Value → Prop}, AllCs cs G → G vs := by
 induction cs with
 | nil => intro f vs x h G hG; cases vs <;> first | (cases h; done) | exact hG
 | cons c cs ih =>
  intro f vs x h G hG
  cases vs with
  | nil => cases h
  | cons v vs =>
   simp only [apCs] at h
   split at h
   ·rename_i g hg; exact ih h (apC_all hg hG)
   ·cases h
theorem apS_all {X : Type} {s : Sh} {f : CurS X s} {v : Value} {x : X} (h : apS s f v = some x) {G : Value → Prop} (hG : AllS s G) : G v := by
 cases s with
 | one c => exact apC_all h hG
 | agg cs => cases v <;> first | (cases h; done) | exact apCs_all (cs := cs) (G := fun vs => G (.agg vs.toArray)) h hG
 | row n => cases v <;> first | (cases h; done) | exact hG _
theorem apF_all {X : Type} {ss : List Sh} : ∀ {f : Cur X ss} {vs : List Value} {x : X}, apF ss f vs = some x → ∀ {G : List Value → Prop}, All ss G → G vs := by
 induction ss with
 | nil => intro f vs x h G hG; cases vs <;> first | (cases h; done) | exact hG
 | cons s ss ih =>
  intro f vs x h G hG
  cases vs with
  | nil => cases h
  | cons v vs =>
   simp only [apF] at h
   split at h
   ·rename_i g hg; exact ih h (apS_all hg hG)
   ·cases h
theorem ap_some {X : Type} {ss : List Sh} {f : Cur X ss} {vs : List Value} {F : X → Prop} (h : ap ss f vs F) : ∃ x, apF ss f vs = some x ∧ F x := by
 unfold ap at h
 cases hq : apF ss f vs with
 | none => rw [hq] at h; exact h.elim
 | some x => rw [hq] at h; exact ⟨x, rfl, h⟩
theorem ap_mk {X : Type} {ss : List Sh} {f : Cur X ss} {vs : List Value} {F : X → Prop} {x : X} (h : apF ss f vs = some x) (hF : F x) : ap ss f vs F := by
 unfold ap; rw [h]; exact hF
theorem ap_all {X : Type} {ss : List Sh} {f : Cur X ss} {vs : List Value} {F : X → Prop} (h : ap ss f vs F) {G : List Value → Prop} (hG : All ss G) : G vs := by
 obtain ⟨x, hx, _⟩ := ap_some h
 exact apF_all hx hG
end Go.V
