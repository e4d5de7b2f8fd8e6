/-
  The statement FnPhased: the walk of the law.
-/
import Derived.Test.YtdcfailgakofeaaPhLaw
namespace Go.Proofs.Ytdcfailgakofeaa
open Go.RowKit Go.Flt

theorem csub_told {a b c d x y : Nat} (h1 : floatBits .sub .f32 a c = some x) (h2 : floatBits .sub .f32 b d = some y) (w : World) : (binOp .sub 30 (.complex .f32 a b) (.complex .f32 c d)).run Try.prog w = .ok (.complex .f32 x y) w := by
  have e1 := fun w => run_carith (P := Try.prog) w h1
  have e2 := fun w => run_carith (P := Try.prog) w h2
  simp [binOp, Op.complexOp, e1, e2]

theorem cadd_told {a b c d x y : Nat} (h1 : floatBits .add .f32 a c = some x) (h2 : floatBits .add .f32 b d = some y) (w : World) : (binOp .add 30 (.complex .f32 a b) (.complex .f32 c d)).run Try.prog w = .ok (.complex .f32 x y) w := by
  have e1 := fun w => run_carith (P := Try.prog) w h1
  have e2 := fun w => run_carith (P := Try.prog) w h2
  simp [binOp, Op.complexOp, e1, e2]

/-- Phases as words. -/
def pw (zs : Nat → Nat × Nat) (i : Nat) : Value := .complex .f32 (zs i).1 (zs i).2

def TurnedAt (w : World) (n : Nat) (zs : Nat → Nat × Nat) (e : Ending) (w' : World) : Prop :=
  ∃ a c, e = .returned (.tuple #[.slice a n c, .bool true]) ∧ w'.ownsRow w.heap.size 30 1 (.slice a n c) n ((List.range n).map (pw zs)) ∧ Below w.heap.size w w'

theorem turned_at {w : World} {n : Nat} {zs : Nat → Nat × Nat} {e : Ending} {w' : World} (h : LinedAt w true ((List.range n).map zs) e w') : TurnedAt w n zs e w' := by
  obtain ⟨a, c, h1, h2, h3⟩ := h
  have hl : ((List.range n).map zs).length = n := by simp
  have he : (List.range ((List.range n).map zs).length).map (cxAt ((List.range n).map zs)) = (List.range n).map (pw zs) := by
    rw [hl]
    apply List.map_congr_left
    intro i hi
    have hi := List.mem_range.1 hi
    unfold cxAt pw
    simp [hi]
  rw [he, hl] at h2
  rw [hl] at h1
  exact ⟨a, c, h1, h2, h3⟩

/-- The number of turns. -/
theorem turn32_told : ∀ j : Nat, j < 17 → floatBits .quo .f32 (FloatKind.f32.nearest ((j : Int) - 8)) 1098907648 = some (turn32 j) := by decide +kernel

theorem turn_check (t : Nat) (h : (decide (t < 2 * Ieee.single.signWeight ∧ t % Ieee.single.signWeight < Ieee.single.infRung) && (floatToFloatBits .f32 t .f64 == some (wide32 t)) &&
    (List.range 8).all fun i => floatBits .mul .f64 (wide32 t) (FloatKind.f64.nearest (i : Int)) == some (turnAt t i) && decide (turnAt t i < 2 * Ieee.double.signWeight ∧ turnAt t i % Ieee.double.signWeight < Ieee.double.infRung) && decide ((fval Ieee.double (turnAt t i)).abs < P2 52)) = true) : Turn t := by
  simp only [Bool.and_eq_true, decide_eq_true_eq, beq_iff_eq, List.all_eq_true, List.mem_range] at h
  exact ⟨h.1.1, h.1.2, fun i hi => (h.2 i hi).1.1, fun i hi => ⟨(h.2 i hi).1.2, (h.2 i hi).2⟩⟩

set_option maxRecDepth 100000 in
theorem turns_ok : ∀ j : Nat, j < 17 → ∀ b : Bool, (decide ((if b then turn32 j else opp32 (turn32 j)) < 2 * Ieee.single.signWeight ∧ (if b then turn32 j else opp32 (turn32 j)) % Ieee.single.signWeight < Ieee.single.infRung) && (floatToFloatBits .f32 (if b then turn32 j else opp32 (turn32 j)) .f64 == some (wide32 (if b then turn32 j else opp32 (turn32 j)))) &&
    (List.range 8).all fun i => floatBits .mul .f64 (wide32 (if b then turn32 j else opp32 (turn32 j))) (FloatKind.f64.nearest (i : Int)) == some (turnAt (if b then turn32 j else opp32 (turn32 j)) i) && decide (turnAt (if b then turn32 j else opp32 (turn32 j)) i < 2 * Ieee.double.signWeight ∧ turnAt (if b then turn32 j else opp32 (turn32 j)) i % Ieee.double.signWeight < Ieee.double.infRung) && decide ((fval Ieee.double (turnAt (if b then turn32 j else opp32 (turn32 j)) i)).abs < P2 52)) = true := by decide +kernel

theorem turn_p {j : Nat} (h : j < 17) : Turn (turn32 j) := turn_check _ (turns_ok j h true)
theorem turn_n {j : Nat} (h : j < 17) : Turn (opp32 (turn32 j)) := turn_check _ (turns_ok j h false)
theorem turn_0 : Turn 0 := by
  have e : turn32 8 = 0 := by decide +kernel
  rw [← e]; exact turn_p (by decide)
end Go.Proofs.Ytdcfailgakofeaa
