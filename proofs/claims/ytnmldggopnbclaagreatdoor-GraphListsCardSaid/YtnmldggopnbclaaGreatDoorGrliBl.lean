/- A part of the proof: plain forms of functions and laws about them. -/
import Derived.Test.YtnmldggopnbclaaGreatDoorGrliBk
import Derived.Defers
namespace Go.V
open Go.RowKit (Below)
section
variable {ρ ρ' : Rn} {m m' : AMem} {w w' w0 : World}
def CallOk (P : Program) (w0 : World) (callE : FuncId → List Value → AMem → Option (Value × AMem)) : Prop :=
 ∀ f us m u m', callE f us m = some (u, m') → Enters P f ∧ ∀ ρ vs w, LR ρ us vs → Mem w0 ρ m w → Calls P f vs.toArray w fun en w' => ∃ ρ' v, Ev w0 ρ m w ρ' m' w' ∧ VR ρ' u v ∧ en = .returned v
theorem undefR : VR ρ undef undef := by
 unfold undef
 first | exact .plain rfl | exact .tuple _ _ rfl (fun i u v h => by simp at h)
def callR (callE : FuncId → List Value → AMem → Option (Value × AMem)) (g : FuncId) (rs : List Sh) (us : List Value) (m : AMem) : Option (Value × AMem) :=
 match callE g us m with
 | some (u, m') => match isR rs u with | true => some (u, m') | false => none
 | none => none
theorem callR_ok {P : Program} {callE : FuncId → List Value → AMem → Option (Value × AMem)} (hc : CallOk P w0 callE) {g : FuncId} {rs : List Sh} {us vs : List Value} {u : Value} (h : callR callE g rs us m = some (u, m')) (r : LR ρ us vs) (hm : Mem w0 ρ m w) {K : Value → World → Prop}
  (k : ∀ ρ' v w', Ev w0 ρ m w ρ' m' w' → VR ρ' u v → K v w') : CallV P g vs.toArray rs K w := by
 unfold callR at h
 split at h
 ·rename_i u1 m1 h1
  split at h
  ·rename_i h2
   cases h
   refine Calls.mono ((hc g us m u m' h1).2 ρ vs w r hm) ?_
   rintro en w' ⟨ρ', v, l, rv, rfl⟩
   exact isR_ex h2 rv ⟨rfl, k ρ' v w' l rv⟩
  ·cases h
 ·cases h
def buildSliceE (T : Tab) (t n : Nat) (parts : List (Nat × Value)) (m : AMem) : Option (Value × AMem) :=
 match T.t t with
 | some i => match i.idx, T.t i.elem with
  | some (none, sz), some j => match j.zero with
   | some z => match z.all plainV && (Nat.beq z.length sz && Nat.ble (n * sz) 16777216) && Nat.blt n symB with
    | true => match Instr.fill (fun j => some (j * sz, sz)) (litCells z n).toArray parts with
     | some cs => some (.slice (some ⟨m.next, 0, none⟩) n n, m.new cs.toList i.elem)
     | none => none
    | false => none
   | none => none
  | _, _ => none
 | none => none
theorem litL {z : List Value} (h : LR ρ z z) : ∀ n, LR ρ (litCells z n) (litCells z n)
 | 0 => .nil
 | n + 1 => ⟨rfl, fun i u v h1 h2 => by
  rw [h1] at h2; cases h2
  unfold litCells at h1
  rcases Nat.lt_or_ge i z.length with hi | hi
  ·rw [List.getElem?_append_left hi] at h1; exact h.at_ i u u h1 h1
  ·rw [List.getElem?_append_right hi] at h1; exact (litL h n).at_ _ u u h1 h1⟩
theorem newSlice (hm : Mem w0 ρ m w) {cs : Array Value} {ds : Array Value} (r : LR ρ cs.toList ds.toList) (ty n : Nat) (hn : Nat.blt n symB = true) {K : Value → World → Prop} (k : ∀ ρ' v w', Ev w0 ρ m w ρ' (m.new cs.toList ty) w' → VR ρ' (.slice (some ⟨m.next, 0, none⟩) n n) v → K v w') :
  AllocK w ds ty fun b w' => K (.slice (some b) n n) w' := by
 have e : ds = ds.toList.toArray := by simp
 rw [e]
 refine hm.new r ty fun ρ' w1 l hd => ?_
 have ec : ρ'.c n = n := ρ'.c_lit hn
 have v := VR.slice (ρ := ρ') (some ⟨m.next, 0, none⟩) n n (by rw [ec]; exact Nat.le_refl _) (fun p hp => by cases hp; exact hd) (.inl hn)
 rw [ec] at v
 exact k ρ' _ w1 l v
theorem buildSliceE_ok {T : Tab} {t n : Nat} {xs ys : List (Nat × Value)} {u : Value} (h : buildSliceE T t n xs m = some (u, m')) (p : PR ρ xs ys) (hm : Mem w0 ρ m w) {K : Value → World → Prop} (k : ∀ ρ' v w', Ev w0 ρ m w ρ' m' w' → VR ρ' u v → K v w') : buildSliceK T t n ys w K := by
 unfold buildSliceE at h
 split at h
 ·rename_i i hi
  split at h
  ·rename_i sz j h1 h2
   split at h
   ·rename_i z hz
    split at h
    ·rename_i hb
     split at h
     ·rename_i cs hf
      cases h
      simp only [Bool.and_eq_true] at hb
      obtain ⟨⟨b1, b2, b3⟩, b4⟩ := hb
      have hl : LR ρ (litCells z n).toArray.toList (litCells z n).toArray.toList := by simpa using litL (plainL b1) n
      obtain ⟨r', hf', rr⟩ := fillR p hl hf
      unfold buildSliceK
      rw [hi]; simp only; rw [h1, h2]; simp only; rw [hz]; simp only
      rw [b2, b3]; simp only [Bool.and_self]; rw [hf']; simp only
      exact newSlice hm rr i.elem n b4 k
     ·cases h
    ·cases h
   ·cases h
  ·cases h
 ·cases h
theorem newSlice2 (hm : Mem w0 ρ m w) {cs ds : List Value} (r : LR ρ cs ds) (ty n c : Nat) (hn : n ≤ c) (hcb : Nat.blt c symB = true) {K : Value → World → Prop} (k : ∀ ρ' v w', Ev w0 ρ m w ρ' (m.new cs ty) w' → VR ρ' (.slice (some ⟨m.next, 0, none⟩) n c) v → K v w') :
  AllocK w ds.toArray ty fun b w' => K (.slice (some b) n c) w' := by
 refine hm.new r ty fun ρ' w1 l hd => ?_
 have ec : ρ'.c c = c := ρ'.c_lit hcb
 have v := VR.slice (ρ := ρ') (some ⟨m.next, 0, none⟩) n c (by rw [ec]; exact hn) (fun p hp => by cases hp; exact hd) (.inl hcb)
 rw [ec] at v
 exact k ρ' _ w1 l v
def makeE (T : Tab) (t : Nat) (l c : Value) (m : AMem) : Option (Value × AMem) :=
 match T.t t, l, c with
 | some i, .int _ l, .int _ c => match i.idx, T.t i.elem with
  | some (none, sz), some j => match j.zero with
   | some z => if 0 ≤ l ∧ l ≤ c ∧ (j.bytes : Int) * c ≤ 281474976710656 ∧ c ≤ 9223372036854775807 then
     (match (madeCells z.toArray (c.toNat * sz)).toList.all plainV && Nat.blt c.toNat symB with
      | true => some (.slice (some ⟨m.next, 0, none⟩) l.toNat c.toNat, m.new (madeCells z.toArray (c.toNat * sz)).toList i.elem)
      | false => none)
    else none
   | none => none
  | _, _ => none
 | _, _, _ => none
theorem makeE_ok {P : Program} {T : Tab} {t : Nat} {l c l' c' u : Value} (h : makeE T t l c m = some (u, m')) (rl : VR ρ l l') (rc : VR ρ c c') (hm : Mem w0 ρ m w) {K : Value → World → Prop} (k : ∀ ρ' v w', Ev w0 ρ m w ρ' m' w' → VR ρ' u v → K v w') : makeK P T t l' c' w K := by
 unfold makeE at h
 split at h
 ·rename_i i k1 l k2 c hi
  cases rl; cases rc
  unfold makeK
  rw [hi]; simp only
  split at h
  ·rename_i sz j h1 h2
   rw [h1, h2]; simp only
   split at h
   ·rename_i z hz
    split at h
    ·rename_i hc
     split at h
     ·rename_i hb
      cases h
      simp only [Bool.and_eq_true] at hb
      refine ⟨hc, ?_⟩
      have e : zeroA P i.elem j = z.toArray := by unfold zeroA; rw [hz]
      rw [e]
      have e2 : madeCells z.toArray (c.toNat * sz) = (madeCells z.toArray (c.toNat * sz)).toList.toArray := by simp
      rw [e2]
      exact newSlice2 hm (plainL hb.1) i.elem l.toNat c.toNat (by omega) hb.2 (by simpa using k)
     ·cases h
    ·cases h
   ·cases h
  ·cases h
 ·cases h
theorem callArgsR {asV bs cs asV' bs' cs' : List Value} (h1 : LR ρ asV asV') (h2 : LR ρ bs bs') (h3 : LR ρ cs cs') : ∃ vs, callArgs asV' bs' cs' = vs.toArray ∧ LR ρ (asV ++ bs ++ cs) vs := by
 have app : ∀ {x y x' y' : List Value}, LR ρ x x' → LR ρ y y' → LR ρ (x ++ y) (x' ++ y') := fun {x y x' y'} a b => ⟨by simp [a.len, b.len], fun i u v p q => by
  rcases Nat.lt_or_ge i x.length with hi | hi
  ·rw [List.getElem?_append_left hi] at p
   rw [List.getElem?_append_left (by rw [← a.len]; exact hi)] at q
   exact a.at_ i u v p q
  ·rw [List.getElem?_append_right hi] at p
   rw [List.getElem?_append_right (by rw [← a.len]; exact hi), ← a.len] at q
   exact b.at_ _ u v p q⟩
 refine ⟨asV' ++ bs' ++ cs', ?_, app (app h1 h2) h3⟩
 unfold callArgs
 split
 ·simp
 ·rfl
def chk (rs : List Sh) : Option (Value × AMem) → Option (Value × AMem)
 | some (u, m) => match isR rs u with | true => some (u, m) | false => none
 | none => none
def pureO (m : AMem) : Option Value → Option (Value × AMem)
 | some u => some (u, m)
 | none => none
def unitO : Option AMem → Option (Value × AMem)
 | some m => some (undef, m)
 | none => none
def moreE (P : Program) (T : Tab) (o : Oper) (e : Env) (m : AMem) : Option (Value × AMem) :=
 match o.op with
 | .call { callee := .builtin .append, args := xs, argTypes := ts } => match ts, evsE e xs.toList with
  | ⟨[t, u]⟩, some [d, x] => chk (rsOf T o.type) (appE P t u d x m)
  | _, _ => none
 | .call { callee := .builtin .delete, args := xs, argTypes := ts } => match ts, evsE e xs.toList with
  | ⟨[t, _]⟩, some [x, k] => (match delE P t m x k with | some m' => some (.tuple #[], m') | none => none)
  | _, _ => none
 | .call { callee := .builtin .len, args := xs, argTypes := ts } => match ts, evsE e xs.toList with
  | ⟨[t]⟩, some [x] => chk (rsOf T o.type) (pureO m (lenMapE P t m x))
  | _, _ => none
 | .call { callee := .builtin .clear, args := xs, argTypes := ts } => match ts, evsE e xs.toList with
  | ⟨[t]⟩, some [x] => chk [] (clearE P t x m)
  | _, _ => none
 | .call { callee := .builtin .copy, args := xs, argTypes := ts } => match ts, evsE e xs.toList with
  | ⟨[t, _]⟩, some [d, x] => chk (rsOf T o.type) (copyE P t d x m)
  | _, _ => none
 | .convert s d x => match evE e x with | some x => chk (rsOf T o.type) (cvE P s d x m) | none => none
 | .slice t x lo hi mx => match evE e x, optE e lo, optE e hi, optE e mx with | some x, some l, some h, some mx => chk (rsOf T o.type) (pureO m (cut3E P t m x l h mx)) | _, _, _, _ => none
 | .makeMap t r => match optE e r with | some r => chk (rsOf T o.type) (mkMapE P t r m) | none => none
 | .lookup t x i ok => match evE e x, evE e i with | some x, some i => chk (rsOf T o.type) (pureO m (lookE P t m x i ok)) | _, _ => none
 | .mapUpdate t x k v => match evE e x, evE e k, evE e v with | some x, some k, some v => unitO (updE P t m x k v) | _, _, _ => none
 | .insert t x k v => match evE e x, evE e k, evE e v with | some x, some k, some v => unitO (updE P t m x k v) | _, _, _ => none
 | .range t x => match evE e x with | some x => rangeE P t x m | none => none
 | .next it s => match evE e it with | some x => nextE x s m | none => none
 | .entry it => match evE e it with | some x => entryE x m | none => none
 | .makeInterface t x => match evE e x with | some x => pureO m (mkIfE P t x) | none => none
 | .typeAssert x _ a ok => match evE e x with | some x => pureO m (asrtE P a ok x) | none => none
 | _ => none
theorem chk_some {rs : List Sh} {o : Option (Value × AMem)} {u : Value} (h : chk rs o = some (u, m')) : o = some (u, m') ∧ isR rs u = true := by
 unfold chk at h
 split at h
 ·split at h
  ·rename_i hr; cases h; exact ⟨rfl, hr⟩
  ·cases h
 ·cases h
theorem pureO_some {o : Option Value} {u : Value} (h : pureO m o = some (u, m')) : o = some u ∧ m' = m := by
 unfold pureO at h
 split at h
 ·cases h; exact ⟨rfl, rfl⟩
 ·cases h
theorem unitO_some {o : Option AMem} {u : Value} (h : unitO o = some (u, m')) : o = some m' ∧ u = undef := by
 unfold unitO at h
 split at h
 ·cases h; exact ⟨rfl, rfl⟩
 ·cases h
theorem evs1 {e e' : Env} (he : ER ρ e e') {xs : List Operand} {a : Value} (h : evsE e xs = some [a]) {F : List Value → Prop} (k : ∀ a', VR ρ a a' → F [a']) : evs e' xs F := evsE_ok he h fun vs r => by
 obtain ⟨a', vs1, rfl, ra, r1⟩ := r.inv_cons
 rw [r1.inv_nil]; exact k a' ra
theorem evs2 {e e' : Env} (he : ER ρ e e') {xs : List Operand} {a b : Value} (h : evsE e xs = some [a, b]) {F : List Value → Prop} (k : ∀ a' b', VR ρ a a' → VR ρ b b' → F [a', b']) : evs e' xs F := evsE_ok he h fun vs r => by
 obtain ⟨a', vs1, rfl, ra, r1⟩ := r.inv_cons
 obtain ⟨b', vs2, rfl, rb, r2⟩ := r1.inv_cons
 rw [r2.inv_nil]; exact k a' b' ra rb
theorem moreE_ok {P : Program} {T : Tab} {o : Oper} {e e' : Env} {u : Value} (h : moreE P T o e m = some (u, m')) (he : ER ρ e e') (hm : Mem w0 ρ m w) {K : Value → World → Prop}
  (k : ∀ ρ' v w', Ev w0 ρ m w ρ' m' w' → VR ρ' u v → K v w') : effV P T o e' K w := by
 unfold moreE at h
 unfold effV
 split at h
 ·rename_i xs ts hop
  rw [hop]; simp only
  split at h
  ·rename_i t u' d x hx
   obtain ⟨h, hr⟩ := chk_some h
   exact evs2 he hx fun d' x' rd rx => (appE_ok h rd rx hm).n hr k
  ·cases h
 ·rename_i xs ts hop
  rw [hop]; simp only
  split at h
  ·rename_i t u' x kk hx
   split at h
   ·rename_i m1 h1
    cases h
    exact evs2 he hx fun x' k' rx rk => (delE_ok h1 rx rk hm).n rfl k
   ·cases h
  ·cases h
 ·rename_i xs ts hop
  rw [hop]; simp only
  split at h
  ·rename_i t x hx
   obtain ⟨h, hr⟩ := chk_some h
   obtain ⟨h, rfl⟩ := pureO_some h
   exact evs1 he hx fun x' rx => (lenMapE_ok h rx hm).n hr k
  ·cases h
 ·rename_i xs ts hop
  rw [hop]; simp only
  split at h
  ·rename_i t x hx
   obtain ⟨h, hr⟩ := chk_some h
   exact evs1 he hx fun x' rx => (clearE_ok h rx hm).n hr k
  ·cases h
 ·rename_i xs ts hop
  rw [hop]; simp only
  split at h
  ·rename_i t u' d x hx
   obtain ⟨h, hr⟩ := chk_some h
   exact evs2 he hx fun d' x' rd rx => (copyE_ok h rd rx hm).n hr k
  ·cases h
 ·rename_i s d x hop
  rw [hop]; simp only
  split at h
  ·rename_i x1 hx
   obtain ⟨h, hr⟩ := chk_some h
   exact evE_ofV he hx fun x' rx => (cvE_ok h rx hm).n hr k
  ·cases h
 ·rename_i t x lo hi mx hop
  rw [hop]; simp only
  split at h
  ·rename_i x1 l1 h1 m1 hx hl hh hmx
   obtain ⟨h, hr⟩ := chk_some h
   obtain ⟨h, rfl⟩ := pureO_some h
   exact evE_ofV he hx fun x' rx => optE_ok he hl fun l' rl => optE_ok he hh fun h' rh => optE_ok he hmx fun m' rm => (cut3E_ok h rx rl rh rm hm).n hr k
  ·cases h
 ·rename_i t r hop
  rw [hop]; simp only
  split at h
  ·rename_i r1 hx
   obtain ⟨h, hr⟩ := chk_some h
   exact optE_ok he hx fun r' rr => (mkMapE_ok h rr hm).n hr k
  ·cases h
 ·rename_i t x i ok hop
  rw [hop]; simp only
  split at h
  ·rename_i x1 i1 hx hi
   obtain ⟨h, hr⟩ := chk_some h
   obtain ⟨h, rfl⟩ := pureO_some h
   exact evE_ofV he hx fun x' rx => evE_ofV he hi fun i' ri => (lookE_ok h rx ri hm).n hr k
  ·cases h
 ·rename_i t x kk v hop
  rw [hop]; simp only
  split at h
  ·rename_i x1 k1 v1 hx hk hv
   obtain ⟨hq, rfl⟩ := unitO_some h
   refine evE_ofV he hx fun x' rx => evE_ofV he hk fun k' rk => evE_ofV he hv fun v' rv => ?_
   obtain ⟨w', h1, h2⟩ := updE_ok hq rx rk rv hm
   exact ⟨w', h1, k ρ undef w' h2 undefR⟩
  ·cases h
 ·rename_i t x kk v hop
  rw [hop]; simp only
  split at h
  ·rename_i x1 k1 v1 hx hk hv
   obtain ⟨hq, rfl⟩ := unitO_some h
   refine evE_ofV he hx fun x' rx => evE_ofV he hk fun k' rk => evE_ofV he hv fun v' rv => ?_
   obtain ⟨w', h1, h2⟩ := updE_ok hq rx rk rv hm
   exact ⟨w', h1, k ρ undef w' h2 undefR⟩
  ·cases h
 ·rename_i t x hop
  rw [hop]; simp only
  split at h
  ·rename_i x1 hx
   refine evE_ofV he hx fun x' rx => ?_
   obtain ⟨ρ', v, w', h1, h2, h3⟩ := rangeE_ok (P := P) h rx hm
   exact ⟨v, w', h1, k ρ' v w' h2 h3⟩
  ·cases h
 ·rename_i it s hop
  rw [hop]; simp only
  split at h
  ·rename_i x1 hx
   refine evE_ofV he hx fun x' rx => ?_
   obtain ⟨ρ', v, w', h1, h2, h3⟩ := nextE_ok (P := P) (ty := o.type) h rx hm
   exact ⟨v, w', h1, k ρ' v w' h2 h3⟩
  ·cases h
 ·rename_i it hop
  rw [hop]; simp only
  split at h
  ·rename_i x1 hx
   refine evE_ofV he hx fun x' rx => ?_
   obtain ⟨ρ', v, w', h1, h2, h3⟩ := entryE_ok (P := P) h rx hm
   exact ⟨v, w', h1, k ρ' v w' h2 h3⟩
  ·cases h
 ·rename_i t x hop
  rw [hop]; simp only
  split at h
  ·rename_i x1 hx
   obtain ⟨hq, rfl⟩ := pureO_some h
   refine evE_ofV he hx fun x' rx => ?_
   obtain ⟨ρ', v, w', h1, h2, h3⟩ := mkIfE_ok (P := P) hq rx hm
   exact ⟨v, w', h1, k ρ' v w' h2 h3⟩
  ·cases h
 ·rename_i x s a ok hop
  rw [hop]; simp only
  split at h
  ·rename_i x1 hx
   obtain ⟨hq, rfl⟩ := pureO_some h
   refine evE_ofV he hx fun x' rx => ?_
   obtain ⟨ρ', v, w', h1, h2, h3⟩ := asrtE_ok (P := P) (s := s) hq rx hm
   exact ⟨v, w', h1, k ρ' v w' h2 h3⟩
  ·cases h
 ·cases h
def effE (P : Program) (T : Tab) (callE : FuncId → List Value → AMem → Option (Value × AMem)) (o : Oper) (e : Env) (m : AMem) : Option (Value × AMem) :=
 match o.op with
 | .alloc t => match T.t t with | some i => (match i.zero with | some z => (match z.all plainV with | true => some (.pointer (some ⟨m.next, 0, none⟩), m.new z t) | false => none) | none => none) | none => none
 | .box t x => match evE e x with | some u => some (.pointer (some ⟨m.next, 0, none⟩), m.new u.cells.toList t) | none => none
 | .store t x y => match evE e x, evE e y with | some p, some u => (match stoE T t p u m with | some m' => some (undef, m') | none => none) | _, _ => none
 | .buildSlice t n ps => match evpsE e ps.toList with | some vs => buildSliceE T t n vs m | none => none
 | .call { callee := .value (.func g), args := xs, .. } => (match evsE e xs.toList, look T.fn g with
  | some us, some rs => callR callE g rs us m
  | some us, none => (match isExt T.ext g with | true => chk (rsOf T o.type) (cloneE us m) | false => none)
  | _, _ => none)
 | .makeFunc f first cap => match evsE e first.toList, evsE e cap.toList with | some a, some b => some (.func f a.toArray b.toArray, m) | _, _ => none
 | .makeSlice t l c => match evE e l, evE e c with | some l, some c => makeE T t l c m | _, _ => none
 | .call { callee := .value (.tmp f), args := xs, .. } => match evE e (.tmp f), evsE e xs.toList with
  | some (.func (.func g) first cap), some us => callR callE g (rsOf T o.type) (first.toList ++ us ++ cap.toList) m
  | _, _ => none
 | _ => moreE P T o e m
theorem newPtr (hm : Mem w0 ρ m w) {cs ds : List Value} (r : LR ρ cs ds) (ty : Nat) {K : Value → World → Prop} (k : ∀ ρ' v w', Ev w0 ρ m w ρ' (m.new cs ty) w' → VR ρ' (.pointer (some ⟨m.next, 0, none⟩)) v → K v w') :
  AllocK w ds.toArray ty fun b w' => K (.pointer (some b)) w' :=
 hm.new r ty fun ρ' w1 l hd => k ρ' _ w1 l (.pointer (some _) fun p hp => by cases hp; exact hd)
theorem funcR {f : Fn} {asV bs asV' bs' : List Value} (h : LR ρ asV asV') (k : LR ρ bs bs') : VR ρ (.func f asV.toArray bs.toArray) (.func f asV'.toArray bs'.toArray) :=
 .func _ _ _ _ _ (by simp [h.len]) (by simp [k.len]) (fun i u v a b => h.at_ i u v (by simpa using a) (by simpa using b)) (fun i u v a b => k.at_ i u v (by simpa using a) (by simpa using b))
theorem effE_ok {P : Program} {T : Tab} (hT : T.Ok P) {callE : FuncId → List Value → AMem → Option (Value × AMem)} (hc : CallOk P w0 callE) {o : Oper} {e e' : Env} {u : Value} (h : effE P T callE o e m = some (u, m')) (he : ER ρ e e') (hm : Mem w0 ρ m w) {K : Value → World → Prop}
  (k : ∀ ρ' v w', Ev w0 ρ m w ρ' m' w' → VR ρ' u v → K v w') : effV P T o e' K w := by
 unfold effE at h
 split at h
 case h_9 => exact moreE_ok h he hm k
 all_goals unfold effV
 ·rename_i t hop
  rw [hop]; simp only
  split at h
  ·rename_i i hi
   split at h
   ·rename_i z hz
    split at h
    ·rename_i hp
     cases h
     rw [hi]; simp only
     have : zeroA P t i = z.toArray := by unfold zeroA; rw [hz]
     rw [this]
     exact newPtr hm (plainL hp) t k
    ·cases h
   ·cases h
  ·cases h
 ·rename_i t x hop
  rw [hop]; simp only
  split at h
  ·rename_i u0 h1
   cases h
   refine evE_ofV he h1 fun v r => ?_
   have ee : v.cells = v.cells.toList.toArray := by simp
   rw [ee]
   exact newPtr hm (cellsR r) t k
  ·cases h
 ·rename_i t x y hop
  rw [hop]; simp only
  split at h
  ·rename_i p u0 h1 h2
   split at h
   ·rename_i m1 h3
    cases h
    refine evE_ofV he h1 fun p' rp => ?_
    obtain ⟨v, hv, r⟩ := evE_ok he h2
    have s := stoE_ok (F := fun w' => K undef w') h3 rp r hm fun w1 v1 => k ρ undef w1 v1 undefR
    obtain ⟨q, rfl, s⟩ := ptrOf_some s
    show ofV (ev e' y) fun u => stK T t q u w fun w' => K undef w'
    rw [hv]; exact s
   ·cases h
  ·cases h
 ·rename_i t n ps hop
  rw [hop]; simp only
  split at h
  ·rename_i vs h1
   exact evpsE_ok he h1 fun vs' p => buildSliceE_ok h p hm k
  ·cases h
 ·rename_i g xs hop
  rw [hop]; simp only
  split at h
  ·rename_i us rs h1 h2
   refine evsE_ok he h1 fun vs r => ?_
   rw [h2]
   exact callR_ok hc h r hm k
  ·rename_i us h1 h2
   split at h
   ·rename_i hx
    obtain ⟨h, hr⟩ := chk_some h
    refine evsE_ok he h1 fun vs r => ?_
    rw [h2]
    obtain ⟨ρ', v, w', q1, q2, q3⟩ := cloneE_ok (P := P) h r hm
    exact isR_ex hr q3 ⟨w', by rw [hT.ext _ hx, q1]; rfl, k ρ' v w' q2 q3⟩
   ·cases h
  ·cases h
 ·rename_i f first cap hop
  rw [hop]; simp only
  split at h
  ·rename_i a b h1 h2
   cases h
   exact evsE_ok he h1 fun asV r1 => evsE_ok he h2 fun bs r2 => k ρ _ w (Ev.refl hm) (funcR r1 r2)
  ·cases h
 ·rename_i t l c hop
  rw [hop]; simp only
  split at h
  ·rename_i l1 c1 h1 h2
   exact evE_ofV he h1 fun l' rl => evE_ofV he h2 fun c' rc => makeE_ok h rl rc hm k
  ·cases h
 ·rename_i f xs _ hop
  rw [hop]; simp only
  split at h
  ·rename_i g first cap us h1 h2
   refine evE_ofV he h1 fun v r => ?_
   have r0 := r
   cases r with
   | func _ _ _ xs' ys' a1 a2 a3 a4 =>
    refine evsE_ok he h2 fun vs rs => ?_
    have hen : Enters P g := by
     unfold callR at h
     split at h
     ·rename_i u1 m1 hcg; exact (hc _ _ _ _ _ hcg).1
     ·cases h
    obtain ⟨ws, e1, rw1⟩ := callArgsR (ρ := ρ) (asV := first.toList) (asV' := xs'.toList) (bs := us) (bs' := vs) (cs := cap.toList) (cs' := ys'.toList) ⟨by simpa using a1, fun i u v p q => a3 i u v (by simpa using p) (by simpa using q)⟩ rs ⟨by simpa using a2, fun i u v p q => a4 i u v (by simpa using p) (by simpa using q)⟩
    refine ⟨hen, ?_⟩
    rw [e1]
    exact callR_ok hc h rw1 hm k
  ·cases h
end
end Go.V
