/- A part of the proof: plain forms of functions and laws about them. -/
import Derived.Test.YtnmldggopnbclaaGreatDoorGrliAg
namespace Go.V
section
variable {P : Program}
def basicOk (P : Program) (t : Nat) (c : Cell) : Bool := match P.underlying t, c with
 | some (.int k), .int j => decide (k = j)
 | some .bool, .bool => true
 | some .string, .str => true
 | _, _ => false
theorem basic_eq {t : Nat} {c : Cell} (h : basicOk P t c = true) {x y : Value} (hx : isC c x = true) (hy : isC c y = true) (d : Nat) (w : World) :
  (Op.equalIn (d + 1) t x y).run P w = .ok (eq1 x y) w := by
 unfold basicOk at h
 split at h
 ·rename_i k j hu
  cases x <;> simp only [isC, Bool.false_eq_true] at hx
  cases y <;> simp only [isC, Bool.false_eq_true] at hy
  rename_i k1 a k2 b
  have e1 := eq_of_beq hx
  have e2 := eq_of_beq hy
  subst e1; subst e2
  rw [run_equalIn_int w d t _ _ _ _ hu]
  simp [eq1]
 ·rename_i hu
  cases x <;> simp only [isC, Bool.false_eq_true] at hx
  cases y <;> simp only [isC, Bool.false_eq_true] at hy
  rw [run_equalIn_bool' w d t _ _ hu]
  simp [eq1]
 ·rename_i hu
  cases x <;> simp only [isC, Bool.false_eq_true] at hx
  cases y <;> simp only [isC, Bool.false_eq_true] at hy
  rw [run_equalIn_string w d t _ _ hu]
  simp [eq1, beq_toListBytes]
 ·cases h
theorem basic_part {t : Nat} {c : Cell} (h : basicOk P t c = true) {xs : Array Value} {i : Nat} {v : Value} (hv : xs[i]? = some v) (w : World) : (part t xs i).run P w = .ok v w := by
 unfold basicOk at h
 split at h
 ·rename_i hu; simp [part, isAgg, run_underlying hu, hv]
 ·rename_i hu; simp [part, isAgg, run_underlying hu, hv]
 ·rename_i hu; simp [part, isAgg, run_underlying hu, hv]
 ·cases h
def fsOk (P : Program) : List Field → Nat → List Cell → Bool
 | [], _, [] => true
 | f :: fs, i, c :: cs => decide (f.name ≠ "_") && Nat.beq f.offset i && basicOk P f.type c && fsOk P fs (i + 1) cs
 | _, _, _ => false
theorem eqFields_run {xs ys : Array Value} (d : Nat) (w : World) : ∀ (fs : List Field) (i : Nat) (cs : List Cell) (x y : List Value), fsOk P fs i cs = true → areC cs x = true → areC cs y = true →
  (∀ j, x[j]? = xs[i + j]?) → (∀ j, y[j]? = ys[i + j]?) → (Op.eqFields (d + 1) xs ys fs).run P w = .ok (eqL x y) w := by
 intro fs
 induction fs with
 | nil =>
  intro i cs x y h hx hy _ _
  cases cs with
  | cons c cs => simp [fsOk] at h
  | nil =>
   cases x <;> simp [areC] at hx
   simp [Op.eqFields, eqL]
 | cons f fs ih =>
  intro i cs x y h hx hy h1 h2
  cases cs with
  | nil => simp [fsOk] at h
  | cons c cs =>
   simp only [fsOk, Bool.and_eq_true] at h
   obtain ⟨⟨⟨hn, ho⟩, hb⟩, h⟩ := h
   have hn := of_decide_eq_true hn
   have ho := Nat.eq_of_beq_eq_true ho
   cases x with
   | nil => simp [areC] at hx
   | cons u x =>
    cases y with
    | nil => simp [areC] at hy
    | cons v y =>
     simp only [areC, Bool.and_eq_true] at hx hy
     have hu : xs[f.offset]? = some u := by rw [ho]; simpa using (h1 0).symm
     have hv : ys[f.offset]? = some v := by rw [ho]; simpa using (h2 0).symm
     have ihh := ih (i + 1) cs x y h hx.2 hy.2 (fun j => by have := h1 (j + 1); simpa [Nat.add_assoc, Nat.add_comm 1 j] using this) (fun j => by have := h2 (j + 1); simpa [Nat.add_assoc, Nat.add_comm 1 j] using this)
     simp only [Op.eqFields, if_pos hn, Sem.run_bind, basic_part hb hu, basic_part hb hv, Result.andThen_ok, basic_eq hb hx.1 hy.1]
     cases he : eq1 u v with
     | true => simp only [Bool.not_true, Bool.false_eq_true, if_false, ihh, eqL, he, Bool.true_and]
     | false => simp [eqL, he]
theorem eqOk_struct {t : Nat} {cs : List Cell} {fs : Array Field} (hu : P.underlying t = some (.struct fs)) (hp : P.stoodInHeld t = false) (hg : P.eqGuardType P.depth t = false) (hf : fsOk P fs.toList 0 cs = true) : EqOk P t cs := by
 intro xs ys w hx hy
 have hfs : P.fieldsOf t = fs := by simp [Program.fieldsOf, hu]
 have he : (Op.equalIn 10000 t (.agg xs.toArray) (.agg ys.toArray)).run P w = .ok (eqL xs ys) w := by
  rw [show (10000 : Nat) = 9999 + 1 from rfl, run_equalIn_struct w 9999 t _ _ (by rw [hfs]; exact hu) hp, hfs]
  exact eqFields_run 9998 w fs.toList 0 cs xs ys hf hx hy (fun j => by simp) (fun j => by simp)
 constructor
 ·rw [Sem.run_bind, run_eqGuard_agg w _ t _ _ _ _ hg, Result.andThen_ok, run_eql_struct, he]; rfl
 ·rw [Sem.run_bind, run_eqGuard_agg w _ t _ _ _ _ hg, Result.andThen_ok, run_neq_struct, he]; rfl
end
end Go.V
