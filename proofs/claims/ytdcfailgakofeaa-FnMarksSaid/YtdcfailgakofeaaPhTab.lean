/-
  The phasors of sixteenths of a turn: a table, and that opposite turns lead back.
-/
import Derived.Test.YtdcfailgakofeaaCx
namespace Go.Flt
open Ieee

/-- (j - 8) / 16 in 32 bits. -/
def turn32 (j : Nat) : Nat := (floatBits .quo .f32 (FloatKind.f32.nearest ((j : Int) - 8)) 1098907648).getD 0
def opp32 (x : Nat) : Nat := Op.negFloat .f32 x
def wide32 (x : Nat) : Nat := (floatToFloatBits .f32 x .f64).getD 0
/-- A number of turns times an index. -/
def turnAt (t i : Nat) : Nat := (floatBits .mul .f64 (wide32 t) (FloatKind.f64.nearest (i : Int))).getD 0

/-- What follows on the part. -/
def phasorRest (f0 : Nat) : Option (Nat × Nat) :=
  (quarters 6 f0 0).bind fun fq => (floatBits .sub .f64 quarter64 fq.1).bind fun d =>
  (sineOf d).bind fun c => (sineOf fq.1).bind fun s => (turned fq.2 c s).bind narrowTwo

theorem phasor_rest (t : Nat) : phasor t = (partOf t).bind phasorRest := rfl

/-- A sixteenth; the last is the other zero. -/
def sixteenth (r : Nat) : Nat := if r = 16 then 9223372036854775808 else (floatBits .quo .f64 (FloatKind.f64.nearest (r : Int)) 4625196817309499392).getD 0

/-- The phasor of a sixteenth. -/
def tab (r : Nat) : Nat × Nat := (#[(1065353216, 0), (1064076126, 1053028117), (1060439283, 1060439283), (1053028117, 1064076126), (0, 1065353216), (3200511765, 1064076126), (3207922931, 1060439283), (3211559774, 1053028117), (3212836864, 0), (3211559774, 3200511765), (3207922931, 3207922931), (3200511765, 3211559774), (0, 3212836864), (1053028117, 3211559774), (1060439283, 3207922931), (1064076126, 3200511765), (1065353216, 2147483648)] : Array (Nat × Nat)).getD r (0, 0)

set_option maxRecDepth 100000 in
theorem tab_rest : ∀ r, r < 17 → phasorRest (sixteenth r) = some (tab r) := by decide +kernel

def ixp (j i : Nat) : Nat := if (i * (j + 8)) % 16 = 0 then (if i = 0 ∧ j < 8 then 16 else 0) else (i * (j + 8)) % 16
def ixn (j i : Nat) : Nat := if (i * (24 - j)) % 16 = 0 then (if j = 8 ∨ (i = 0 ∧ 8 < j) then 16 else 0) else (i * (24 - j)) % 16

set_option maxRecDepth 100000 in
theorem part_p : ∀ j, j < 17 → ∀ i, i < 8 → partOf (turnAt (turn32 j) i) = some (sixteenth (ixp j i)) := by decide +kernel
set_option maxRecDepth 100000 in
theorem part_n : ∀ j, j < 17 → ∀ i, i < 8 → partOf (turnAt (opp32 (turn32 j)) i) = some (sixteenth (ixn j i)) := by decide +kernel

/-- Two phasors of opposite turns. -/
structure Opp (p q : Nat × Nat) : Prop where
  f1 : fin single p.1
  f2 : fin single p.2
  f3 : fin single q.1
  f4 : fin single q.2
  one : (fval single p.1 * fval single p.1 + fval single p.2 * fval single p.2 - 1).abs ≤ 1 / 1000000
  re : fval single q.1 = fval single p.1
  im : fval single q.2 = -fval single p.2
  l1 : (fval single p.1).abs ≤ 5 / 4
  l2 : (fval single p.2).abs ≤ 5 / 4

def oppB (p q : Nat × Nat) : Bool :=
  decide (p.1 < 2 * single.signWeight ∧ p.1 % single.signWeight < single.infRung) && decide (p.2 < 2 * single.signWeight ∧ p.2 % single.signWeight < single.infRung) &&
  decide (q.1 < 2 * single.signWeight ∧ q.1 % single.signWeight < single.infRung) && decide (q.2 < 2 * single.signWeight ∧ q.2 % single.signWeight < single.infRung) &&
  decide ((fval single p.1 * fval single p.1 + fval single p.2 * fval single p.2 - 1).abs ≤ 1 / 1000000) &&
  decide (fval single q.1 = fval single p.1) && decide (fval single q.2 = -fval single p.2) && decide ((fval single p.1).abs ≤ 5 / 4) && decide ((fval single p.2).abs ≤ 5 / 4)

theorem opp_of {p q : Nat × Nat} (h : oppB p q = true) : Opp p q := by
  unfold oppB at h
  simp only [Bool.and_eq_true, decide_eq_true_eq] at h
  obtain ⟨⟨⟨⟨⟨⟨⟨⟨h1, h2⟩, h3⟩, h4⟩, h5⟩, h6⟩, h7⟩, h8⟩, h9⟩ := h
  exact ⟨h1, h2, h3, h4, h5, h6, h7, h8, h9⟩

set_option maxRecDepth 100000 in
theorem tab_opp : ∀ j, j < 17 → ∀ i, i < 8 → oppB (tab (ixp j i)) (tab (ixn j i)) = true := by decide +kernel

theorem ixp_lt : ∀ j, j < 17 → ∀ i, i < 8 → ixp j i < 17 := by decide +kernel
theorem ixn_lt : ∀ j, j < 17 → ∀ i, i < 8 → ixn j i < 17 := by decide +kernel

/-- The phasors of a number of turns times an index, and of its opposite. -/
theorem turn_pair {j i : Nat} (hj : j < 17) (hi : i < 8) : ∃ p q, phasor (turnAt (turn32 j) i) = some p ∧ phasor (turnAt (opp32 (turn32 j)) i) = some q ∧ Opp p q := by
  refine ⟨tab (ixp j i), tab (ixn j i), ?_, ?_, opp_of (tab_opp j hj i hi)⟩
  · rw [phasor_rest, part_p j hj i hi]; exact tab_rest _ (ixp_lt j hj i hi)
  · rw [phasor_rest, part_n j hj i hi]; exact tab_rest _ (ixn_lt j hj i hi)

/-- No turn. -/
theorem turn_none {i : Nat} (hi : i < 8) : phasor (turnAt 0 i) = some (1065353216, 0) := by
  have : ∀ i, i < 8 → partOf (turnAt 0 i) = some (sixteenth 0) := by decide +kernel
  have h := tab_rest 0 (by decide)
  have e : tab 0 = (1065353216, 0) := by decide +kernel
  rw [e] at h
  rw [phasor_rest, this i hi, Option.bind_some, h]
end Go.Flt
