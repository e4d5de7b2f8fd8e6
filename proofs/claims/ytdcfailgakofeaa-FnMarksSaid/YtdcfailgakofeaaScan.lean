/-
  The lines of a scan, as a function of words up to not-a-numbers; no program in sight.
-/
import Derived.Test.YtdcfailgakofeaaPhGood
import Derived.Test.YtdcfailgakofeaaLike
namespace Go.Flt
open Ieee

/-- The quotient of k times i, and n, as a 64-bit word. -/
def quoOf (k i n : Nat) : Nat := (floatBits .quo .f64 (FloatKind.f64.nearest ((k : Int) * (i : Int))) (FloatKind.f64.nearest (n : Int))).getD 0

theorem quo_good {k i n : Nat} (hk : k ≤ 64) (hi : i ≤ 64) (hn1 : 2 ≤ n) (hn : n ≤ 64) :
    floatBits .quo .f64 (FloatKind.f64.nearest ((k : Int) * (i : Int))) (FloatKind.f64.nearest (n : Int)) = some (quoOf k i n) ∧ fin double (quoOf k i n) ∧ (fval double (quoOf k i n)).abs ≤ 5000 ∧
      near (2 * u64) (((k * i : Nat) : Rat) / (n : Rat)) (fval double (quoOf k i n)) := by
  have hki : k * i ≤ 4096 := Nat.mul_le_mul hk hi
  have e1 : (k : Int) * (i : Int) = ((k * i : Nat) : Int) := by simp
  obtain ⟨f1, v1⟩ := ofInt .f64 ((k : Int) * (i : Int)) (by
    rw [e1, Int.natAbs_natCast]
    have : (4096 : Nat) < 2 ^ (FloatKind.f64.format.fractionBits + 1) := by decide
    omega)
  obtain ⟨f2, v2⟩ := ofInt .f64 (n : Int) (by
    rw [Int.natAbs_natCast]
    have : (64 : Nat) < 2 ^ (FloatKind.f64.format.fractionBits + 1) := by decide
    omega)
  rw [e1, Rat.intCast_natCast] at v1
  rw [Rat.intCast_natCast] at v2
  have hn0 : (2 : Rat) ≤ (n : Rat) := by exact_mod_cast hn1
  have hv2 : fval double (FloatKind.f64.nearest (n : Int)) ≠ 0 := by
    have : fval double (FloatKind.f64.nearest (n : Int)) = (n : Rat) := v2
    rw [this]; grind
  have hki0 : (0 : Rat) ≤ ((k * i : Nat) : Rat) := by exact_mod_cast Nat.zero_le _
  have hki1 : ((k * i : Nat) : Rat) ≤ 4096 := by exact_mod_cast hki
  have hnn : (n : Rat) ≠ 0 := by grind
  have hv : ((k * i : Nat) : Rat) / (n : Rat) * fval double (FloatKind.f64.nearest (n : Int)) = fval double (FloatKind.f64.nearest ((k : Int) * (i : Int))) := by
    have a1 : fval double (FloatKind.f64.nearest (n : Int)) = (n : Rat) := v2
    have a2 : fval double (FloatKind.f64.nearest ((k : Int) * (i : Int))) = ((k * i : Nat) : Rat) := by rw [e1]; exact v1
    rw [a1, a2]
    exact Rat.div_mul_cancel hnn
  have hb : (((k * i : Nat) : Rat) / (n : Rat)).abs ≤ 4096 := by
    have h0 : 0 ≤ ((k * i : Nat) : Rat) / (n : Rat) := by
      refine Rat.le_of_mul_le_mul_right (c := (n : Rat)) ?_ (by grind)
      rw [Rat.div_mul_cancel hnn]; grind
    have h1 : ((k * i : Nat) : Rat) / (n : Rat) ≤ 4096 := by
      refine Rat.le_of_mul_le_mul_right (c := (n : Rat)) ?_ (by grind)
      rw [Rat.div_mul_cancel hnn]; grind
    exact abs_le h1 (by grind)
  obtain ⟨r, hr, hR⟩ := div64 f1 f2 hv2 _ hv (by grind)
  have hq : quoOf k i n = r := by unfold quoOf; rw [hr]; rfl
  have hnr := hR.near64.at hb (by grind)
  have := abs_bounds hb
  rw [hq]
  exact ⟨hr, hR.fin, abs_le (by grind) (by grind), hR.near64⟩

/-- The turns of line k at place i. -/
def turnsOf (k i n : Nat) : Nat := opp64 (quoOf k i n)
theorem tame_le {t : Nat} (h : fin double t) (hb : (fval double t).abs ≤ 5000) : Tame t := by
  refine ⟨h, ?_⟩
  have : (5000 : Rat) < P2 52 := by
    have : P2 52 = ((2 ^ 52 : Nat) : Rat) := P2_nat 52
    rw [this]; decide +kernel
  grind
theorem turns_good {k i n : Nat} (hk : k ≤ 64) (hi : i ≤ 64) (hn1 : 2 ≤ n) (hn : n ≤ 64) : Tame (turnsOf k i n) := by
  obtain ⟨_, h2, h3, _⟩ := quo_good hk hi hn1 hn
  obtain ⟨o1, o2⟩ := opp_good h2
  unfold turnsOf
  exact tame_le o1 (by rw [o2, Rat.abs_neg]; exact h3)

/-- The phasor's parts. -/
def phOf (t : Nat) : Nat × Nat := (phasor t).getD (0, 0)
theorem ph_some {t : Nat} (h : Tame t) : phasor t = some ((phOf t).1, (phOf t).2) := by
  obtain ⟨a, b, hp, _⟩ := phasor_good h
  unfold phOf; rw [hp]; rfl

/-- A line's sum of the first i numbers. -/
def lineAcc (xs : Nat → Nat) (n k : Nat) : Nat → Option Nat × Option Nat
  | 0 => (some 0, some 0)
  | i + 1 => (obin .add .f32 (lineAcc xs n k i).1 (obin .mul .f32 (some (phOf (turnsOf k i n)).1) (some (xs i))),
      obin .add .f32 (lineAcc xs n k i).2 (obin .mul .f32 (some (phOf (turnsOf k i n)).2) (some (xs i))))

/-- Is a complex number told and finite? -/
def finO (p q : Option Nat) : Bool :=
  match p, q with
  | some a, some b => finB single a && finB single b
  | _, _ => false

def scanGood (xs : Nat → Nat) (n : Nat) : Bool := (List.range (n / 2 + 1)).all fun k => finO (lineAcc xs n k n).1 (lineAcc xs n k n).2
def scanList (xs : Nat → Nat) (n : Nat) : List (Nat × Nat) := (List.range (n / 2 + 1)).map fun k => ((lineAcc xs n k n).1.getD 0, (lineAcc xs n k n).2.getD 0)
/-- Is a list a scan, and are its lines finite? -/
def scanOk (xs : Nat → Nat) (n : Nat) : Bool := decide (2 ≤ n ∧ n ≤ 64) && ((List.range n).all fun i => finB single (xs i)) && scanGood xs n
/-- What ScanLines returns. -/
def scanOut (xs : Nat → Nat) (n : Nat) : List (Nat × Nat) := if scanOk xs n then scanList xs n else []

theorem nan_not_fin {f : Format} {x : Nat} (h : isNan f x) : finB f x = false := by
  cases hb : finB f x
  · rfl
  · obtain ⟨s, m, e, h1, _⟩ := fin_read (finB_iff.1 hb)
    unfold isNan at h; rw [h1] at h; cases h

theorem like_fin {p q : Option Nat} {x y : Nat} (h1 : Like .f32 p x) (h2 : Like .f32 q y) : (finB single x && finB single y) = finO p q := by
  cases p with
  | none =>
    have : finB single x = false := nan_not_fin h1
    rw [this]; cases q <;> rfl
  | some a =>
    obtain rfl : x = a := h1
    cases q with
    | none =>
      have : finB single y = false := nan_not_fin h2
      rw [this, Bool.and_false]; rfl
    | some b => obtain rfl : y = b := h2; rfl

theorem like_eq {p q : Option Nat} {x y : Nat} (h1 : Like .f32 p x) (h2 : Like .f32 q y) (hf : finO p q = true) : p = some x ∧ q = some y := by
  cases p with
  | none => cases q <;> cases hf
  | some a =>
    cases q with
    | none => cases hf
    | some b =>
      obtain rfl : x = a := h1
      obtain rfl : y = b := h2
      exact ⟨rfl, rfl⟩
end Go.Flt
