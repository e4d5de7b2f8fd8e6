/-
  Words up to not-a-numbers: what an operation gives where it may be invalid; whether a word is finite.
-/
import Derived.Test.YtdcfailgakofeaaFltUse
namespace Go.Flt
open Ieee

/-- Is a word of the format finite? -/
def finB (f : Format) (x : Nat) : Bool := decide (x < 2 * f.signWeight ∧ x % f.signWeight < f.infRung)
theorem finB_iff {f : Format} {x : Nat} : finB f x = true ↔ fin f x := by unfold finB fin; simp

def isNan (f : Format) (x : Nat) : Prop := (f.read x).isNaN = true

theorem nan_order {f : Format} {x : Nat} (h : isNan f x) (y : Nat) : f.order x y = none ∧ f.order y x = none := by
  unfold isNan at h
  unfold Format.order
  cases hx : f.read x with
  | number s m e => rw [hx] at h; cases h
  | infinity s => rw [hx] at h; cases h
  | nan s t =>
    cases hy : f.read y <;> exact ⟨rfl, rfl⟩

theorem nan_left {k : FloatKind} {x : Nat} (h : isNan k.format x) (op : BinOp) (y : Nat) : floatBits op k x y = none := by
  unfold isNan at h
  cases hx : k.format.read x with
  | number s m e => rw [hx] at h; cases h
  | infinity s => rw [hx] at h; cases h
  | nan s t =>
    unfold floatBits
    cases op <;> try rfl
    all_goals
      simp only [Format.add, Format.sub, Format.mul, Format.div, hx]
      cases hy : k.format.read y <;> rfl

theorem nan_right {k : FloatKind} {x : Nat} (h : isNan k.format x) (op : BinOp) (y : Nat) : floatBits op k y x = none := by
  unfold isNan at h
  cases hx : k.format.read x with
  | number s m e => rw [hx] at h; cases h
  | infinity s => rw [hx] at h; cases h
  | nan s t =>
    unfold floatBits
    cases op <;> try rfl
    all_goals
      simp only [Format.add, Format.sub, Format.mul, Format.div, hx]
      cases hy : k.format.read y <;> rfl

/-- The word that an invalid operation draws. -/
def drawn (k : FloatKind) (x y : Nat) (w : World) : Nat := Question.cut (.nanBits k x y) (w.tape w.drawn (.nanBits k x y))

theorem drawn_nan (k : FloatKind) (x y : Nat) (w : World) : isNan k.format (drawn k x y w) := by
  unfold isNan drawn
  generalize w.tape w.drawn (.nanBits k x y) = t
  have key : ∀ (f : Format) (s r : Nat), (s = 0 ∨ s = 1) → f.binade ≤ f.infRung → f.infRung < r → r < f.signWeight → (f.read (s * f.signWeight + r)).isNaN = true := by
    intro f s r hs hb h1 h2
    have hm : (s * f.signWeight + r) % f.signWeight = r := by
      rw [Nat.add_comm, Nat.add_mul_mod_self_right, Nat.mod_eq_of_lt h2]
    unfold Format.read
    simp only [hm]
    rw [if_neg (by omega), if_neg (by omega), if_neg (by omega)]; rfl
  cases k with
  | f32 =>
    have := key single (t % 2) (0x7f800000 + 1 + (t / 2) % (2 ^ 23 - 1)) (by omega) (by decide) (by
      have : single.infRung = 0x7f800000 := by decide
      rw [this]; omega) (by
      have : single.signWeight = 2 ^ 31 := by decide
      rw [this]; omega)
    have e : single.signWeight = 2 ^ 31 := by decide
    rw [e] at this
    have e2 : Question.cut (.nanBits .f32 x y) t = t % 2 * 2 ^ 31 + (0x7f800000 + 1 + (t / 2) % (2 ^ 23 - 1)) := by
      show t % 2 * 2 ^ 31 + 0x7f800000 + 1 + (t / 2) % (2 ^ 23 - 1) = _
      omega
    rw [e2]; exact this
  | f64 =>
    have := key double (t % 2) (0x7ff0000000000000 + 1 + (t / 2) % (2 ^ 52 - 1)) (by omega) (by decide) (by
      have : double.infRung = 0x7ff0000000000000 := by decide
      rw [this]; omega) (by
      have : double.signWeight = 2 ^ 63 := by decide
      rw [this]; omega)
    have e : double.signWeight = 2 ^ 63 := by decide
    rw [e] at this
    have e2 : Question.cut (.nanBits .f64 x y) t = t % 2 * 2 ^ 63 + (0x7ff0000000000000 + 1 + (t / 2) % (2 ^ 52 - 1)) := by
      show t % 2 * 2 ^ 63 + 0x7ff0000000000000 + 1 + (t / 2) % (2 ^ 52 - 1) = _
      omega
    rw [e2]; exact this

/-- An operation that is invalid draws a not-a-number. -/
theorem run_invalid {P : Program} (w : World) (op : BinOp) (t : TypeId) (k : FloatKind) (x y : Nat) (hop : op = .add ∨ op = .sub ∨ op = .mul ∨ op = .quo) (h : floatBits op k x y = none) :
    (binOp op t (.float k x) (.float k y)).run P w = .ok (.float k (drawn k x y w)) w.drew := by
  unfold floatBits at h
  rcases hop with rfl | rfl | rfl | rfl <;> simp only at h <;> simp [binOp, Op.floatArith, h, drawn, go_sem]

/-- 'v' is the word that p tells; where p tells none, it is a not-a-number. -/
def Like (k : FloatKind) (p : Option Nat) (v : Nat) : Prop :=
  match p with
  | some b => v = b
  | none => isNan k.format v

def obin (op : BinOp) (k : FloatKind) (p q : Option Nat) : Option Nat := p.bind fun a => q.bind fun b => floatBits op k a b

/-- One operation on likes: either it is told, or it draws. -/
theorem like_op {P : Program} {op : BinOp} {k : FloatKind} {p q : Option Nat} {v u : Nat} (hop : op = .add ∨ op = .sub ∨ op = .mul ∨ op = .quo) (hv : Like k p v) (hu : Like k q u) (t : TypeId) :
    (∃ r, floatBits op k v u = some r ∧ Like k (obin op k p q) r ∧ ∀ w, (binOp op t (.float k v) (.float k u)).run P w = .ok (.float k r) w) ∨
    (obin op k p q = none ∧ ∀ w, (binOp op t (.float k v) (.float k u)).run P w = .ok (.float k (drawn k v u w)) w.drew) := by
  cases p with
  | none =>
    right
    exact ⟨rfl, fun w => run_invalid w op t k v u hop (nan_left hv op u)⟩
  | some a =>
    obtain rfl : v = a := hv
    cases q with
    | none =>
      right
      exact ⟨rfl, fun w => run_invalid w op t k v u hop (nan_right hu op v)⟩
    | some b =>
      obtain rfl : u = b := hu
      have e : obin op k (some v) (some u) = floatBits op k v u := rfl
      rw [e]
      cases hf : floatBits op k v u with
      | none => right; exact ⟨rfl, fun w => run_invalid w op t k v u hop hf⟩
      | some r => left; exact ⟨r, rfl, rfl, fun w => run_float_arith w op t k v u r hf⟩

theorem sub_self_fin {f : Format} (hE : 2 ≤ f.exponentBits) {x : Nat} (h : fin f x) : ∃ z, f.sub x x = some z ∧ fin f z ∧ fval f z = 0 := by
  obtain ⟨z, hz, hR⟩ := sub_rnd f hE h h (by rw [Rat.sub_self]; exact P2_pos _)
  have hz0 : fval f z = 0 := by
    have := hR.pos (by rw [Rat.sub_self]; exact Rat.le_refl)
    have := hR.neg (by rw [Rat.sub_self]; exact Rat.le_refl)
    grind
  exact ⟨z, hz, hR.fin, hz0⟩

theorem fin_zero32 : fin single 0 ∧ fval single 0 = 0 := by
  refine ⟨by unfold fin; decide +kernel, ?_⟩
  unfold fval
  rw [show single.read 0 = .number false 0 (-149) by decide +kernel]
  unfold Datum.val; simp

/-- 'x - x == 0' of a finite single; of another one the difference is invalid. -/
theorem self32 {x : Nat} (h : fin single x) : ∃ z, floatBits .sub .f32 x x = some z ∧ (FloatKind.f32.format.order z 0 == some .eq) = true := by
  obtain ⟨z, h1, h2, h3⟩ := sub_self_fin (f := single) hE32 h
  refine ⟨z, h1, ?_⟩
  have ho := order_val single h2 fin_zero32.1
  rw [h3, fin_zero32.2, if_neg Rat.lt_irrefl, if_pos rfl] at ho
  have : FloatKind.f32.format = single := rfl
  rw [this, ho]; rfl
theorem self32_not {x : Nat} (hx : x < 2 * single.signWeight) (h : ¬ fin single x) : floatBits .sub .f32 x x = none := by
  have hr : ¬ x % single.signWeight < single.infRung := fun h2 => h ⟨hx, h2⟩
  have hb : ¬ x % single.signWeight < single.binade := by
    have : single.binade ≤ single.infRung := by decide
    omega
  have : ∃ s, single.read x = .infinity s ∨ ∃ t, single.read x = .nan s t := by
    unfold Format.read
    simp only []
    rw [if_neg hb, if_neg hr]
    split
    · exact ⟨_, Or.inl rfl⟩
    · exact ⟨_, Or.inr ⟨_, rfl⟩⟩
  show single.sub x x = none
  unfold Format.sub
  obtain ⟨s, h1 | ⟨t, h1⟩⟩ := this
  · rw [h1]; cases s <;> rfl
  · rw [h1]; rfl
end Go.Flt
