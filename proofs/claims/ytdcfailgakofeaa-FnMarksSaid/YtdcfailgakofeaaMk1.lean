/-
  Walks of small functions on lists of finite numbers: tests, sums, copies, roots, gaps.
-/
import Derived.Test.YtdcfailgakofeaaWp5
namespace Go.Proofs.Ytdcfailgakofeaa
open Go.RowKit Go.Flt

/-! ### Order, by values -/
theorem ord32 {x y : Nat} (hx : fin Ieee.single x) (hy : fin Ieee.single y) : FloatKind.f32.format.order x y = some (if fval Ieee.single x < fval Ieee.single y then .lt else if fval Ieee.single x = fval Ieee.single y then .eq else .gt) := order_val Ieee.single hx hy
theorem ord64 {x y : Nat} (hx : fin Ieee.double x) (hy : fin Ieee.double y) : FloatKind.f64.format.order x y = some (if fval Ieee.double x < fval Ieee.double y then .lt else if fval Ieee.double x = fval Ieee.double y then .eq else .gt) := order_val Ieee.double hx hy

theorem lt32 {x y : Nat} (hx : fin Ieee.single x) (hy : fin Ieee.single y) : (FloatKind.f32.format.order x y == some .lt) = decide (fval Ieee.single x < fval Ieee.single y) := by
  rw [ord32 hx hy]
  by_cases h : fval Ieee.single x < fval Ieee.single y
  · rw [if_pos h, decide_eq_true h]; rfl
  · rw [if_neg h, decide_eq_false h]; split <;> rfl
theorem gt32 {x y : Nat} (hx : fin Ieee.single x) (hy : fin Ieee.single y) : (FloatKind.f32.format.order x y == some .gt) = decide (fval Ieee.single y < fval Ieee.single x) := by
  rw [ord32 hx hy]
  by_cases h : fval Ieee.single y < fval Ieee.single x
  · rw [if_neg (by grind), if_neg (by grind), decide_eq_true h]; rfl
  · rw [decide_eq_false h]
    by_cases h2 : fval Ieee.single x < fval Ieee.single y
    · rw [if_pos h2]; rfl
    · rw [if_neg h2, if_pos (by grind)]; rfl
theorem eq32 {x y : Nat} (hx : fin Ieee.single x) (hy : fin Ieee.single y) : (FloatKind.f32.format.order x y == some .eq) = decide (fval Ieee.single x = fval Ieee.single y) := by
  rw [ord32 hx hy]
  by_cases h : fval Ieee.single x < fval Ieee.single y
  · rw [if_pos h, decide_eq_false (by grind)]; rfl
  · rw [if_neg h]
    by_cases h2 : fval Ieee.single x = fval Ieee.single y
    · rw [if_pos h2, decide_eq_true h2]; rfl
    · rw [if_neg h2, decide_eq_false h2]; rfl
theorem lt64 {x y : Nat} (hx : fin Ieee.double x) (hy : fin Ieee.double y) : (FloatKind.f64.format.order x y == some .lt) = decide (fval Ieee.double x < fval Ieee.double y) := lss64 hx hy
theorem gt64 {x y : Nat} (hx : fin Ieee.double x) (hy : fin Ieee.double y) : (FloatKind.f64.format.order x y == some .gt) = decide (fval Ieee.double y < fval Ieee.double x) := gtr64 hx hy

theorem zero_fin : fin Ieee.single 0 := by unfold fin; decide +kernel
theorem zero_val : fval Ieee.single 0 = 0 := by decide +kernel

/-! ### Maximum and minimum of finite words -/
def maxW (k : FloatKind) (x y : Nat) : Nat :=
  match k.format.order x y with
  | some .lt => y
  | some .gt => x
  | _ => if (k.decode x).neg then y else x
def minW (k : FloatKind) (x y : Nat) : Nat :=
  match k.format.order x y with
  | some .lt => x
  | some .gt => y
  | _ => if (k.decode x).neg then x else y

theorem run_maxF {k : FloatKind} {x y : Nat} (h : (k.format.order x y).isSome = true) (ts : Array TypeId) (t : TypeId) (w : World) : (Builtin.max_ ts t #[.float k x, .float k y]).run Try.prog w = .ok (.float k (maxW k x y)) w := by
  unfold maxW
  cases ho : k.format.order x y with
  | none => rw [ho] at h; cases h
  | some o => cases o <;> simp [Builtin.max_, Builtin.max2, ho, go_sem]
theorem run_minF {k : FloatKind} {x y : Nat} (h : (k.format.order x y).isSome = true) (ts : Array TypeId) (t : TypeId) (w : World) : (Builtin.min_ ts t #[.float k x, .float k y]).run Try.prog w = .ok (.float k (minW k x y)) w := by
  unfold minW
  cases ho : k.format.order x y with
  | none => rw [ho] at h; cases h
  | some o => cases o <;> simp [Builtin.min_, Builtin.min2, ho, go_sem]

theorem max32_good {x y : Nat} (hx : fin Ieee.single x) (hy : fin Ieee.single y) : (FloatKind.f32.format.order x y).isSome = true ∧ fin Ieee.single (maxW .f32 x y) ∧ fval Ieee.single (maxW .f32 x y) = max (fval Ieee.single x) (fval Ieee.single y) := by
  have ho := ord32 hx hy
  unfold maxW
  rw [ho]
  refine ⟨rfl, ?_⟩
  by_cases h : fval Ieee.single x < fval Ieee.single y
  · rw [if_pos h]; exact ⟨hy, by grind⟩
  · rw [if_neg h]
    by_cases h2 : fval Ieee.single x = fval Ieee.single y
    · rw [if_pos h2]
      simp only
      split
      · exact ⟨hy, by grind⟩
      · exact ⟨hx, by grind⟩
    · rw [if_neg h2]; exact ⟨hx, by grind⟩
theorem min32_good {x y : Nat} (hx : fin Ieee.single x) (hy : fin Ieee.single y) : (FloatKind.f32.format.order x y).isSome = true ∧ fin Ieee.single (minW .f32 x y) ∧ fval Ieee.single (minW .f32 x y) = min (fval Ieee.single x) (fval Ieee.single y) := by
  have ho := ord32 hx hy
  unfold minW
  rw [ho]
  refine ⟨rfl, ?_⟩
  by_cases h : fval Ieee.single x < fval Ieee.single y
  · rw [if_pos h]; exact ⟨hx, by grind⟩
  · rw [if_neg h]
    by_cases h2 : fval Ieee.single x = fval Ieee.single y
    · rw [if_pos h2]
      simp only
      split
      · exact ⟨hx, by grind⟩
      · exact ⟨hy, by grind⟩
    · rw [if_neg h2]; exact ⟨hy, by grind⟩
theorem max64_good {x y : Nat} (hx : fin Ieee.double x) (hy : fin Ieee.double y) : (FloatKind.f64.format.order x y).isSome = true ∧ fin Ieee.double (maxW .f64 x y) ∧ fval Ieee.double (maxW .f64 x y) = max (fval Ieee.double x) (fval Ieee.double y) := by
  have ho := ord64 hx hy
  unfold maxW
  rw [ho]
  refine ⟨rfl, ?_⟩
  by_cases h : fval Ieee.double x < fval Ieee.double y
  · rw [if_pos h]; exact ⟨hy, by grind⟩
  · rw [if_neg h]
    by_cases h2 : fval Ieee.double x = fval Ieee.double y
    · rw [if_pos h2]
      simp only
      split
      · exact ⟨hy, by grind⟩
      · exact ⟨hx, by grind⟩
    · rw [if_neg h2]; exact ⟨hx, by grind⟩
end Go.Proofs.Ytdcfailgakofeaa
