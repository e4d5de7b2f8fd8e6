/-
  The sine and the phasor of a number of turns, as functions of words, each operation rounded on its own; no program in sight.
-/
import Derived.Test.YtdcfailgakofeaaFltDiv
namespace Go.Flt
open Ieee

abbrev one64 : Nat := 4607182418800017408
abbrev quarter64 : Nat := 4598175219545276416
abbrev half64 : Nat := 4602678819172646912
abbrev turn64 : Nat := 4618760256179416344

/-- Is x less than y? -/
def lss (k : FloatKind) (x y : Nat) : Bool := k.format.order x y == some .lt
def geq (k : FloatKind) (x y : Nat) : Bool := k.format.order x y == some .gt || k.format.order x y == some .eq
def gtr (k : FloatKind) (x y : Nat) : Bool := k.format.order x y == some .gt
def eql (k : FloatKind) (x y : Nat) : Bool := k.format.order x y == some .eq
def opp64 (x : Nat) : Nat := Op.negFloat .f64 x

/-- The whole part, cut off. -/
def cutOff (t : Nat) : Nat := FloatKind.f64.encode ((FloatKind.f64.decode t).integral .zero)
/-- The whole part without a sign at zero. -/
def wholeOf (t : Nat) : Nat := if eql .f64 (cutOff t) 0 then 0 else cutOff t
/-- What is left of turns behind the point, plus 1 if it is less than 0. -/
def partOf (t : Nat) : Option Nat :=
  (floatBits .sub .f64 t (wholeOf t)).bind fun f => if lss .f64 f 0 then floatBits .add .f64 f one64 else some f

/-- The eight numbers 2 k (2 k + 1), for k from 8 down. -/
def den (j : Nat) : Nat := FloatKind.f64.nearest (2 * (8 - (j : Int)) * (2 * (8 - (j : Int)) + 1))
def polStep (u p : Nat) (j : Nat) : Option Nat :=
  (floatBits .mul .f64 u p).bind fun m => (floatBits .quo .f64 m (den j)).bind fun q => floatBits .sub .f64 one64 q
def pol (u : Nat) : Nat → Option Nat
  | 0 => some one64
  | j + 1 => (pol u j).bind fun p => polStep u p j

/-- The sine of what is left, f. -/
def sineRest (f : Nat) : Option Nat :=
  (if geq .f64 f half64 then floatBits .sub .f64 f half64 else some f).bind fun f1 =>
  (if gtr .f64 f1 quarter64 then floatBits .sub .f64 half64 f1 else some f1).bind fun f2 =>
  (floatBits .mul .f64 f2 turn64).bind fun z =>
  (floatBits .mul .f64 z z).bind fun u =>
  (pol u 8).bind fun p =>
  (floatBits .mul .f64 z p).bind fun r => some (if geq .f64 f half64 then opp64 r else r)
def sineOf (t : Nat) : Option Nat := (partOf t).bind sineRest

/-- Quarters are taken away as long as there are some: at most n times. -/
def quarters : Nat → Nat → Nat → Option (Nat × Nat)
  | 0, _, _ => none
  | n + 1, f, q => if geq .f64 f quarter64 then (floatBits .sub .f64 f quarter64).bind fun g => quarters n g (q + 1) else some (f, q)

/-- The two parts by the quarter. -/
def turned (q c s : Nat) : Option (Nat × Nat) :=
  if q = 1 then (floatBits .sub .f64 0 s).bind fun a => some (a, c)
  else if q = 2 then (floatBits .sub .f64 0 c).bind fun a => (floatBits .sub .f64 0 s).bind fun b => some (a, b)
  else if q = 3 then (floatBits .sub .f64 0 c).bind fun b => some (s, b)
  else some (c, s)

def narrowTwo (x : Nat × Nat) : Option (Nat × Nat) :=
  (floatToFloatBits .f64 x.1 .f32).bind fun a => (floatToFloatBits .f64 x.2 .f32).bind fun b => some (a, b)

/-- The phasor of turns of an absolute value below 2 ^ 52. -/
def phasor (t : Nat) : Option (Nat × Nat) :=
  (partOf t).bind fun f0 => (quarters 6 f0 0).bind fun fq =>
  (floatBits .sub .f64 quarter64 fq.1).bind fun d =>
  (sineOf d).bind fun c => (sineOf fq.1).bind fun s => (turned fq.2 c s).bind narrowTwo

/-- A number of turns that is finite, of an absolute value below 2 ^ 52. -/
def Tame (t : Nat) : Prop := fin double t ∧ (fval double t).abs < P2 52

theorem abs_word (f : Format) {x : Nat} (h : fin f x) : fin f (x % f.signWeight) ∧ fval f (x % f.signWeight) = (fval f x).abs := by
  have hs : 0 < f.signWeight := by have := infRung_lt f; omega
  have hlt := Nat.mod_lt x hs
  refine ⟨⟨by omega, by rw [Nat.mod_mod]; exact h.2⟩, ?_⟩
  unfold fval Format.read
  simp only [Nat.mod_mod, Nat.div_eq_of_lt hlt]
  by_cases hr : x % f.signWeight < f.binade
  · rw [if_pos hr, if_pos hr, abs_number]; rfl
  · rw [if_neg hr, if_neg hr, if_pos h.2, if_pos h.2, abs_number]; rfl

theorem big52 : fin double 4841369599423283200 ∧ fval double 4841369599423283200 = P2 52 := by
  refine ⟨by unfold fin; decide +kernel, ?_⟩
  unfold fval
  rw [show double.read 4841369599423283200 = .number false 4503599627370496 0 by decide +kernel]
  unfold Datum.val
  decide +kernel

/-- A tame number of turns is not huge. -/
theorem Tame.small {t : Nat} (h : Tame t) : geq .f64 (t % 9223372036854775808) 4841369599423283200 = false := by
  obtain ⟨h1, h2⟩ := abs_word double h.1
  obtain ⟨h3, h4⟩ := big52
  have e : double.signWeight = 9223372036854775808 := by decide
  rw [e] at h1 h2
  have ho := order_val double h1 h3
  rw [h2, h4, if_pos h.2] at ho
  unfold geq
  have : FloatKind.f64.format = double := rfl
  rw [this, ho]; rfl

theorem Tame.lt {t : Nat} (h : Tame t) : t < 18446744073709551616 := h.1.1
end Go.Flt
