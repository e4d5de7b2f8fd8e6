/-
  The operations on finite words in the shape in which they are used: the result, and how near it is.
-/
import Derived.Test.YtdcfailgakofeaaPh
namespace Go.Flt
open Ieee

theorem P2_m52 : P2 (-52) = 1 / 4503599627370496 := by decide +kernel
theorem P2_m23 : P2 (-23) = 1 / 8388608 := by decide +kernel
theorem P2_100 : P2 100 = 1267650600228229401496703205376 := by decide +kernel
theorem P2_m100 : P2 (-100) = 1 / 1267650600228229401496703205376 := by decide +kernel
theorem lp64 : P2 double.leastPlace ≤ 1 / 1267650600228229401496703205376 := by
  rw [← P2_m100]; exact P2_mono (by decide)
theorem lp32 : P2 single.leastPlace ≤ 1 / 1267650600228229401496703205376 := by
  rw [← P2_m100]; exact P2_mono (by decide)
theorem le_abs (v : Rat) : v ≤ v.abs ∧ -v ≤ v.abs := by
  rcases Rat.le_total (a := 0) (b := v) with h | h
  · rw [Rat.abs_of_nonneg h]; grind
  · rw [Rat.abs_of_nonpos h]; grind
theorem abs_le {v b : Rat} (h1 : v ≤ b) (h2 : -b ≤ v) : v.abs ≤ b := by
  rcases Rat.le_total (a := 0) (b := v) with h | h
  · rw [Rat.abs_of_nonneg h]; exact h1
  · rw [Rat.abs_of_nonpos h]; grind
theorem abs_bounds {v b : Rat} (h : v.abs ≤ b) : v ≤ b ∧ -b ≤ v := by have := le_abs v; grind
theorem abs_mul_le {x y a b : Rat} (hx : x.abs ≤ a) (hy : y.abs ≤ b) : (x * y).abs ≤ a * b := by
  have h0 : 0 ≤ x.abs := Rat.abs_nonneg
  have h1 : 0 ≤ y.abs := Rat.abs_nonneg
  have e : (x * y).abs = x.abs * y.abs := by
    rcases Rat.le_total (a := 0) (b := x) with hx | hx <;> rcases Rat.le_total (a := 0) (b := y) with hy | hy
    · rw [Rat.abs_of_nonneg hx, Rat.abs_of_nonneg hy, Rat.abs_of_nonneg (Rat.mul_nonneg hx hy)]
    · rw [Rat.abs_of_nonneg hx, Rat.abs_of_nonpos hy, Rat.abs_of_nonpos (by have := Rat.mul_nonneg hx (show 0 ≤ -y by grind); grind)]; grind
    · rw [Rat.abs_of_nonpos hx, Rat.abs_of_nonneg hy, Rat.abs_of_nonpos (by have := Rat.mul_nonneg (show 0 ≤ -x by grind) hy; grind)]; grind
    · rw [Rat.abs_of_nonpos hx, Rat.abs_of_nonpos hy, Rat.abs_of_nonneg (by have := Rat.mul_nonneg (show 0 ≤ -x by grind) (show 0 ≤ -y by grind); grind)]; grind
  rw [e]
  have h2 := Rat.mul_le_mul_of_nonneg_right hx h1
  have h3 := Rat.mul_le_mul_of_nonneg_left hy (Rat.le_trans h0 hx)
  grind

/-- How near: u parts of v, and less than 2 ^ -100. -/
def near (u v w : Rat) : Prop := w - v ≤ v.abs * u + 1 / 1267650600228229401496703205376 ∧ v - w ≤ v.abs * u + 1 / 1267650600228229401496703205376

abbrev u64 : Rat := 1 / 9007199254740992
abbrev u32 : Rat := 1 / 16777216

theorem Rnd.near64 {v : Rat} {r : Nat} (h : Rnd double v r) : near u64 v (fval double r) := by
  have h1 := h.up
  have h2 := h.down
  have h3 := lp64
  have e : (-(double.fractionBits : Int)) = -52 := by decide
  rw [e, P2_m52] at h1 h2
  constructor <;> grind
theorem Nr.near64 {v : Rat} {r : Nat} (h : Nr double v r) : near (2 * u64) v (fval double r) := by
  have h1 := h.up
  have h2 := h.down
  have h3 := lp64
  have e : (-(double.fractionBits : Int)) = -52 := by decide
  rw [e, P2_m52] at h1 h2
  constructor <;> grind
theorem Rnd.near32 {v : Rat} {r : Nat} (h : Rnd single v r) : near u32 v (fval single r) := by
  have h1 := h.up
  have h2 := h.down
  have h3 := lp32
  have e : (-(single.fractionBits : Int)) = -23 := by decide
  rw [e, P2_m23] at h1 h2
  constructor <;> grind
theorem Nr.near32 {v : Rat} {r : Nat} (h : Nr single v r) : near (2 * u32) v (fval single r) := by
  have h1 := h.up
  have h2 := h.down
  have h3 := lp32
  have e : (-(single.fractionBits : Int)) = -23 := by decide
  rw [e, P2_m23] at h1 h2
  constructor <;> grind

/-- near, with a bound on v: an absolute error. -/
theorem near.at {u v w b : Rat} (h : near u v w) (hb : v.abs ≤ b) (hu : 0 ≤ u) : w - v ≤ b * u + 1 / 1267650600228229401496703205376 ∧ v - w ≤ b * u + 1 / 1267650600228229401496703205376 := by
  have := Rat.mul_le_mul_of_nonneg_right hb hu
  obtain ⟨h1, h2⟩ := h
  constructor <;> grind

/-- The bound under which nothing overflows. -/
abbrev big : Rat := 1267650600228229401496703205376
theorem big64 {v : Rat} (h : v.abs ≤ big) : v.abs < P2 (top double) := by
  unfold big at h; rw [← P2_100] at h
  have h1 : P2 100 < P2 101 := by have := P2_half 101; have := P2_pos 100; have e : (101 - 1 : Int) = 100 := by decide
                                  rw [e] at *; grind
  have h2 := P2_mono (show (101 : Int) ≤ top double by decide)
  grind
theorem big32 {v : Rat} (h : v.abs ≤ big) : v.abs < P2 (top single) := by
  unfold big at h; rw [← P2_100] at h
  have h1 : P2 100 < P2 101 := by have := P2_half 101; have := P2_pos 100; have e : (101 - 1 : Int) = 100 := by decide
                                  rw [e] at *; grind
  have h2 := P2_mono (show (101 : Int) ≤ top single by decide)
  grind
theorem bigm64 {v : Rat} (h : v.abs ≤ big) : v.abs ≤ P2 (top double - 1) := by
  unfold big at h; rw [← P2_100] at h
  have h2 := P2_mono (show (100 : Int) ≤ top double - 1 by decide)
  grind
theorem bigm32 {v : Rat} (h : v.abs ≤ big) : v.abs ≤ P2 (top single - 1) := by
  unfold big at h; rw [← P2_100] at h
  have h2 := P2_mono (show (100 : Int) ≤ top single - 1 by decide)
  grind

theorem add64 {x y : Nat} (hx : fin double x) (hy : fin double y) (h : (fval double x + fval double y).abs ≤ big) : ∃ r, floatBits .add .f64 x y = some r ∧ Rnd double (fval double x + fval double y) r :=
  add_rnd double hE64 hx hy (big64 h)
theorem sub64 {x y : Nat} (hx : fin double x) (hy : fin double y) (h : (fval double x - fval double y).abs ≤ big) : ∃ r, floatBits .sub .f64 x y = some r ∧ Rnd double (fval double x - fval double y) r :=
  sub_rnd double hE64 hx hy (big64 h)
theorem mul64 {x y : Nat} (hx : fin double x) (hy : fin double y) (h : (fval double x * fval double y).abs ≤ big) : ∃ r, floatBits .mul .f64 x y = some r ∧ Rnd double (fval double x * fval double y) r :=
  mul_rnd double hE64 hx hy (big64 h)
theorem div64 {x y : Nat} (hx : fin double x) (hy : fin double y) (hy0 : fval double y ≠ 0) (v : Rat) (hv : v * fval double y = fval double x) (h : v.abs ≤ big) : ∃ r, floatBits .quo .f64 x y = some r ∧ Nr double v r :=
  div_nr double hE64 hx hy hy0 v hv (bigm64 h)
theorem add32 {x y : Nat} (hx : fin single x) (hy : fin single y) (h : (fval single x + fval single y).abs ≤ big) : ∃ r, floatBits .add .f32 x y = some r ∧ Rnd single (fval single x + fval single y) r :=
  add_rnd single hE32 hx hy (big32 h)
theorem sub32 {x y : Nat} (hx : fin single x) (hy : fin single y) (h : (fval single x - fval single y).abs ≤ big) : ∃ r, floatBits .sub .f32 x y = some r ∧ Rnd single (fval single x - fval single y) r :=
  sub_rnd single hE32 hx hy (big32 h)
theorem mul32 {x y : Nat} (hx : fin single x) (hy : fin single y) (h : (fval single x * fval single y).abs ≤ big) : ∃ r, floatBits .mul .f32 x y = some r ∧ Rnd single (fval single x * fval single y) r :=
  mul_rnd single hE32 hx hy (big32 h)
theorem div32 {x y : Nat} (hx : fin single x) (hy : fin single y) (hy0 : fval single y ≠ 0) (v : Rat) (hv : v * fval single y = fval single x) (h : v.abs ≤ big) : ∃ r, floatBits .quo .f32 x y = some r ∧ Nr single v r :=
  div_nr single hE32 hx hy hy0 v hv (bigm32 h)

/-- Comparisons, by values. -/
theorem lss64 {x y : Nat} (hx : fin double x) (hy : fin double y) : lss .f64 x y = decide (fval double x < fval double y) := by
  unfold lss
  have := order_val double hx hy
  have e : FloatKind.f64.format = double := rfl
  rw [e, this]
  by_cases h : fval double x < fval double y
  · rw [if_pos h, decide_eq_true h]; rfl
  · rw [if_neg h, decide_eq_false h]; split <;> rfl
theorem gtr64 {x y : Nat} (hx : fin double x) (hy : fin double y) : gtr .f64 x y = decide (fval double y < fval double x) := by
  unfold gtr
  have := order_val double hx hy
  have e : FloatKind.f64.format = double := rfl
  rw [e, this]
  by_cases h : fval double y < fval double x
  · rw [if_neg (by grind), if_neg (by grind), decide_eq_true h]; rfl
  · rw [decide_eq_false h]
    by_cases h2 : fval double x < fval double y
    · rw [if_pos h2]; rfl
    · rw [if_neg h2, if_pos (by grind)]; rfl
theorem geq64 {x y : Nat} (hx : fin double x) (hy : fin double y) : geq .f64 x y = decide (fval double y ≤ fval double x) := by
  unfold geq
  have := order_val double hx hy
  have e : FloatKind.f64.format = double := rfl
  rw [e, this]
  by_cases h : fval double y ≤ fval double x
  · rw [if_neg (by grind), decide_eq_true h]
    split <;> rfl
  · rw [if_pos (by grind), decide_eq_false h]; rfl
theorem eql64 {x y : Nat} (hx : fin double x) (hy : fin double y) : eql .f64 x y = decide (fval double x = fval double y) := by
  unfold eql
  have := order_val double hx hy
  have e : FloatKind.f64.format = double := rfl
  rw [e, this]
  by_cases h : fval double x < fval double y
  · rw [if_pos h, decide_eq_false (by grind)]; rfl
  · rw [if_neg h]
    by_cases h2 : fval double x = fval double y
    · rw [if_pos h2, decide_eq_true h2]; rfl
    · rw [if_neg h2, decide_eq_false h2]; rfl
end Go.Flt
