/-
  Plain facts: where marks stand; kernels; stitched lists; the last loop of the law on marks.
-/
import Derived.Test.YtdcfailgakofeaaMkNum3
namespace Go.Flt
open Ieee Go.Proofs.Ytdcfailgakofeaa

/-! ### Where marks stand -/
theorem marks_cut (xs : Nat → Nat) (bar n i : Nat) (hi : i < n) : ∃ rest : List Nat, (∀ m ∈ rest, i < m) ∧ marksTo xs bar n n = marksTo xs bar n i ++ (if isPk xs bar n i then [i] else []) ++ rest := by
  refine ⟨((List.range (n - (i + 1))).map (i + 1 + ·)).filter (isPk xs bar n), ?_, ?_⟩
  · intro m hm
    rw [List.mem_filter, List.mem_map] at hm
    obtain ⟨⟨a, _, rfl⟩, _⟩ := hm
    omega
  · rw [← marksTo_succ]
    unfold marksTo
    rw [← List.filter_append]
    congr 1
    have e : n = (i + 1) + (n - (i + 1)) := by omega
    rw (occs := [1]) [e]
    exact List.range_add

theorem marks_hit {xs : Nat → Nat} {bar n i : Nat} (hi : i < n) (h : isPk xs bar n i = true) : (marksTo xs bar n i).length < (marksTo xs bar n n).length ∧ (marksTo xs bar n n).getD (marksTo xs bar n i).length 0 = i := by
  obtain ⟨rest, _, e⟩ := marks_cut xs bar n i hi
  rw [if_pos h] at e
  rw [e]
  simp
theorem marks_miss {xs : Nat → Nat} {bar n i : Nat} (hi : i < n) (h : isPk xs bar n i = false) (hl : (marksTo xs bar n i).length < (marksTo xs bar n n).length) : (marksTo xs bar n n).getD (marksTo xs bar n i).length 0 ≠ i := by
  obtain ⟨rest, hr, e⟩ := marks_cut xs bar n i hi
  rw [if_neg (by simp [h]), List.append_nil] at e
  rw [e] at hl ⊢
  simp at hl
  cases rest with
  | nil => simp at hl
  | cons a t =>
    have := hr a (by simp)
    simp
    omega

/-! ### Kernels -/
theorem kern_good {ks c : Nat → Nat} {m : Nat} (h : Small ks m c) : ∃ all, sumW ks m = some all ∧ fin single all ∧ fval single all = (wsum c m : Rat) ∧ 0 < fval single all := by
  have Q : ∀ i, i < m → Qr (ks i) (4 * (c i : Int)) := fun i hi => ⟨h.fin i hi, by rw [h.val i hi, Rat.intCast_mul]; have : ((c i : Int) : Rat) = (c i : Rat) := rfl; rw [this]; have : ((4 : Int) : Rat) = 4 := rfl; rw [this]; grind⟩
  have q0 : Qr 0 0 := ⟨zero_fin, by rw [zero_val]; decide +kernel⟩
  have L : ∀ i, i < m → c i ≤ 3 := h.le
  have mid := h.mid
  rcases h.one with rfl | rfl
  · obtain ⟨r, hr, q⟩ := q0.add (Q 0 (by decide)) (by have := L 0 (by decide); omega)
    refine ⟨r, by unfold sumW sumW; exact hr, q.fin, ?_, ?_⟩
    · rw [q.val]
      have e : (((0 + 4 * (c 0 : Int) : Int)) : Rat) = 4 * (c 0 : Rat) := by rw [Int.zero_add, Rat.intCast_mul]; rfl
      rw [e]
      show _ = (c 0 : Rat)
      grind
    · rw [q.val]
      have : (0 : Rat) < ((0 + 4 * (c 0 : Int) : Int) : Rat) := by exact_mod_cast (by have : 1 ≤ c 0 := mid; omega)
      grind
  · have l0 := L 0 (by decide); have l1 := L 1 (by decide); have l2 := L 2 (by decide)
    obtain ⟨r, hr, q⟩ := q0.add (Q 0 (by decide)) (by omega)
    obtain ⟨r', hr', q'⟩ := q.add (Q 1 (by decide)) (by omega)
    obtain ⟨r'', hr'', q''⟩ := q'.add (Q 2 (by decide)) (by omega)
    refine ⟨r'', by simp only [sumW, Option.bind_some, hr, hr', hr''], q''.fin, ?_, ?_⟩
    · rw [q''.val]
      have e : (((0 + 4 * (c 0 : Int) + 4 * (c 1 : Int) + 4 * (c 2 : Int) : Int)) : Rat) = 4 * ((wsum c 3 : Nat) : Rat) := by
        have : (0 + 4 * (c 0 : Int) + 4 * (c 1 : Int) + 4 * (c 2 : Int) : Int) = 4 * ((wsum c 3 : Nat) : Int) := by unfold wsum; rw [if_neg (by decide)]; omega
        rw [this, Rat.intCast_mul]; rfl
      rw [e]; grind
    · rw [q''.val]
      have : (0 : Rat) < ((0 + 4 * (c 0 : Int) + 4 * (c 1 : Int) + 4 * (c 2 : Int) : Int) : Rat) := by exact_mod_cast (by have : 1 ≤ c 1 := mid; omega)
      grind

theorem Small.kern {ks c : Nat → Nat} {m all : Nat} (h : Small ks m c) (hs : sumW ks m = some all) (fa : Go.Flt.fin single all) (pa : 0 < fval single all) : Kern ks m all :=
  ⟨h.fin, fun i hi => by rw [h.val i hi]; exact_mod_cast Nat.zero_le _, hs, fun _ => fa, pa⟩

/-- The kernel of the law. -/
def ker3 (a b : Nat) (i : Nat) : Nat := if i = 0 then FloatKind.f32.nearest (a : Int) else if i = 1 then 1065353216 else FloatKind.f32.nearest (b : Int)
theorem ker3_0 (a b : Nat) : ker3 a b 0 = FloatKind.f32.nearest (a : Int) := by unfold ker3; rw [if_pos rfl]
theorem ker3_1 (a b : Nat) : ker3 a b 1 = 1065353216 := by unfold ker3; rw [if_neg (by decide), if_pos rfl]
theorem ker3_2 (a b : Nat) : ker3 a b 2 = FloatKind.f32.nearest (b : Int) := by unfold ker3; rw [if_neg (by decide), if_neg (by decide)]
def kc3 (a b : Nat) (i : Nat) : Nat := if i = 0 then a else if i = 1 then 1 else b
theorem nat_word {a : Nat} (ha : a ≤ 3) : fin single (FloatKind.f32.nearest (a : Int)) ∧ fval single (FloatKind.f32.nearest (a : Int)) = (a : Rat) := ofInt .f32 (a : Int) (by show _ < 2 ^ 24; omega)
theorem small3 {a b : Nat} (ha : a ≤ 3) (hb : b ≤ 3) : Small (ker3 a b) 3 (kc3 a b) := by
  obtain ⟨f1, v1⟩ := nat_word ha
  obtain ⟨f2, v2⟩ := nat_word hb
  refine ⟨Or.inr rfl, fun i hi => ?_, fun i hi => ?_, fun i hi => ?_, by unfold kc3; simp⟩
  · rcases (by omega : i = 0 ∨ i = 1 ∨ i = 2) with rfl | rfl | rfl
    · rw [ker3_0]; exact f1
    · rw [ker3_1]; exact one_val32.1
    · rw [ker3_2]; exact f2
  · rcases (by omega : i = 0 ∨ i = 1 ∨ i = 2) with rfl | rfl | rfl
    · rw [ker3_0, v1]; rfl
    · rw [ker3_1, one_val32.2]; rfl
    · rw [ker3_2, v2]; rfl
  · unfold kc3
    rcases (by omega : i = 0 ∨ i = 1 ∨ i = 2) with rfl | rfl | rfl
    · simpa using ha
    · simp
    · simpa using hb
theorem ker3_rev (a b i : Nat) (hi : i < 3) : ker3 a b (3 - 1 - i) = ker3 b a i := by
  rcases (by omega : i = 0 ∨ i = 1 ∨ i = 2) with rfl | rfl | rfl
  · rw [ker3_0]; exact ker3_2 a b
  · rw [ker3_1]; exact ker3_1 a b
  · rw [ker3_2]; exact ker3_0 a b
theorem small3r {a b : Nat} (ha : a ≤ 3) (hb : b ≤ 3) : Small (fun i => ker3 a b (3 - 1 - i)) 3 (kc3 b a) := by
  have h := small3 hb ha
  refine ⟨Or.inr rfl, fun i hi => ?_, fun i hi => ?_, h.le, h.mid⟩
  · show fin single (ker3 a b (3 - 1 - i))
    rw [ker3_rev a b i hi]; exact h.fin i hi
  · show fval single (ker3 a b (3 - 1 - i)) = _
    rw [ker3_rev a b i hi]; exact h.val i hi
theorem small_one : Small (fun _ => 1065353216) 1 (fun _ => 1) := ⟨Or.inl rfl, fun _ _ => one_val32.1, fun _ _ => one_val32.2, fun _ _ => by decide, by decide⟩
theorem small_two : Small (fun _ => 1073741824) 1 (fun _ => 2) := ⟨Or.inl rfl, fun _ _ => two_val32.1, fun _ _ => two_val32.2, fun _ _ => by decide, by decide⟩

/-! ### The last loop -/
structure LastOk (z low high : Nat) (Z A B C D : Nat) : Prop where
  wz : floatToFloatBits .f32 z .f64 = some Z
  wl : floatToFloatBits .f32 low .f64 = some A
  sb : floatBits .sub .f64 A c001 = some B
  wh : floatToFloatBits .f32 high .f64 = some C
  ad : floatBits .add .f64 C c001 = some D
  o1 : (FloatKind.f64.format.order Z B == some .lt) = false
  o2 : (FloatKind.f64.format.order Z D == some .gt) = false

theorem last_good {z low high : Nat} (fz : fin single z) (fl : fin single low) (fh : fin single high) (l1 : 1 / 4 ≤ fval single low) (l2 : fval single low ≤ 4) (h1 : 1 / 4 ≤ fval single high) (h2 : fval single high ≤ 4)
    (z1 : fval single low - 10 * (fval single low * ee) ≤ fval single z) (z2 : fval single z ≤ fval single high + 14 * (fval single high * ee)) : ∃ Z A B C D, LastOk z low high Z A B C D := by
  obtain ⟨Z, hZ, fZ, vZ⟩ := widen fz
  obtain ⟨A, hA, fA, vA⟩ := widen fl
  obtain ⟨C, hC, fC, vC⟩ := widen fh
  have cv : fval double c001 ≤ 1 / 999 ∧ 1 / 1000 ≤ fval double c001 := by decide +kernel
  have ab : (fval double A - fval double c001).abs ≤ 5 := by rw [vA]; exact Go.Flt.abs_le (by grind) (by grind)
  have cb : (fval double C + fval double c001).abs ≤ 5 := by rw [vC]; exact Go.Flt.abs_le (by grind) (by grind)
  obtain ⟨B, hB, rB⟩ := sub64 fA c001_val.1 (by unfold big; grind)
  obtain ⟨D, hD, rD⟩ := add64 fC c001_val.1 (by unfold big; grind)
  have nB := abs_bounds (near_abs rB.near64 ab (by decide +kernel))
  have nD := abs_bounds (near_abs rD.near64 cb (by decide +kernel))
  rw [vA] at nB
  rw [vC] at nD
  have g1 := lss64 fZ rB.fin
  have g2 := gtr64 fZ rD.fin
  rw [decide_eq_false (by rw [vZ]; unfold ee u64 at *; grind)] at g1
  rw [decide_eq_false (by rw [vZ]; unfold ee u64 at *; grind)] at g2
  exact ⟨Z, A, B, C, D, hZ, hA, hB, hC, hD, g1, g2⟩
end Go.Flt
