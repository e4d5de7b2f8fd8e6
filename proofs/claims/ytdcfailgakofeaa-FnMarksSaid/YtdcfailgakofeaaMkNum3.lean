/-
  Plain facts: totals, noise, marks, stitched lists of numbers from 1/4 to 4.
-/
import Derived.Test.YtdcfailgakofeaaMkNum2
namespace Go.Flt
open Ieee Go.Proofs.Ytdcfailgakofeaa

/-- Quarters from 1/4 to 4. -/
structure Lst (xs : Nat → Nat) (n : Nat) : Prop where
  q : ∀ i, i < n → ∃ k : Nat, 1 ≤ k ∧ k ≤ 16 ∧ Qr (xs i) (k : Int)

theorem Lst.fin {xs : Nat → Nat} {n i : Nat} (h : Lst xs n) (hi : i < n) : fin single (xs i) := by obtain ⟨k, _, _, q⟩ := h.q i hi; exact q.fin
theorem Lst.lo {xs : Nat → Nat} {n i : Nat} (h : Lst xs n) (hi : i < n) : 1 / 4 ≤ fval single (xs i) := by
  obtain ⟨k, k1, _, q⟩ := h.q i hi
  rw [q.val]
  have : (1 : Rat) ≤ ((k : Int) : Rat) := by exact_mod_cast k1
  grind
theorem Lst.hi {xs : Nat → Nat} {n i : Nat} (h : Lst xs n) (hi : i < n) : fval single (xs i) ≤ 4 := by
  obtain ⟨k, _, k2, q⟩ := h.q i hi
  rw [q.val]
  have : ((k : Int) : Rat) ≤ 16 := by exact_mod_cast k2
  grind
theorem Lst.abs {xs : Nat → Nat} {n i : Nat} (h : Lst xs n) (hi : i < n) : (fval single (xs i)).abs ≤ 4 := by
  have := h.lo hi; have := h.hi hi
  exact Go.Flt.abs_le (by grind) (by grind)

theorem Lst.total {xs : Nat → Nat} {n : Nat} (h : Lst xs n) (hn : n ≤ 64) : ∀ i, i ≤ n → ∃ r K : Nat, sumW xs i = some r ∧ Qr r (K : Int) ∧ i ≤ K ∧ K ≤ 16 * i := by
  intro i
  induction i with
  | zero => intro _; exact ⟨0, 0, rfl, ⟨by unfold Go.Flt.fin; decide +kernel, by decide +kernel⟩, by decide, by decide⟩
  | succ i ih =>
    intro hi
    obtain ⟨r, K, hr, hq, k1, k2⟩ := ih (by omega)
    obtain ⟨k, l1, l2, q⟩ := h.q i (by omega)
    obtain ⟨s, hs, hqs⟩ := hq.add q (by omega)
    exact ⟨s, K + k, by unfold sumW; rw [hr]; exact hs, by exact_mod_cast hqs, by omega, by omega⟩

theorem Lst.shift {xs : Nat → Nat} {n k m : Nat} (h : Lst xs n) (hk : k + m ≤ n) : Lst (fun i => xs (k + i)) m := ⟨fun i hi => h.q (k + i) (by omega)⟩

/-- A gap that is small is not above the bound. -/
theorem gap_fine {a b : Nat} {d : Rat} (ha : fin single a) (hb : fin single b) (hd : (fval single a - fval single b).abs ≤ d) (h : d ≤ 9 / 10000) : ∃ g, gap8 a b = some g ∧ (FloatKind.f64.format.order g c001 == some .gt) = false := by
  obtain ⟨g, hg, fg, vg⟩ := gap8_good ha hb d hd (by grind)
  refine ⟨g, hg, ?_⟩
  have h1 := gtr64 fg c001_val.1
  have h2 := c001_val.2
  rw [decide_eq_false (by unfold u64 at vg; grind)] at h1
  exact h1

/-- The root of a number from 1/2 to 100. -/
theorem root_good {s : Nat} (fs : fin single s) (l : 1 / 100 ≤ fval single s) (u : fval single s ≤ 1000) : ∃ r, rootW s = some r ∧ fin single r ∧ 0 < fval single r ∧ fval single r ≤ 50 ∧
    fval single r * fval single r ≤ fval single s + fval single s * (1 / 1000000) ∧ fval single s ≤ fval single r * fval single r + fval single s * (1 / 1000000) := by
  obtain ⟨S, hS, fS, vS⟩ := widen fs
  obtain ⟨r, hr, hq⟩ := sqrt_sq fS (by rw [vS]; grind) (by rw [vS]; unfold big; grind)
  have r0 := hq.pos
  have s1 := hq.up
  have s2 := hq.down
  rw [vS] at s1 s2
  have hr1 : fval double r ≤ 40 := hq.le (by grind) (by rw [vS]; grind)
  have p127 : (1000 : Rat) < P2 127 := by decide +kernel
  obtain ⟨t, ht, rt⟩ := narrow hq.fin (by rw [Rat.abs_of_nonneg r0]; grind)
  have nl := rt.near32
  unfold near at nl
  rw [Rat.abs_of_nonneg r0] at nl
  have l0 := rt.pos r0
  obtain ⟨t1, t2⟩ := sq_narrow _ _ r0 (by grind) l0 nl.1 nl.2
  refine ⟨t, ?_, rt.fin, ?_, by unfold u32 at nl; grind, by grind, by grind⟩
  · unfold rootW; simp only [hS, hr, ht, Option.bind_some]
  · by_cases h0 : fval single t = 0
    · rw [h0] at t2; grind
    · grind

structure Noise (tot r q p g T m : Nat) : Prop where
  root : rootW tot = some r
  quo : floatBits .quo .f32 tot r = some q
  fq : fin single q
  sq : floatBits .mul .f32 q q = some p
  gap : gap8 p tot = some g
  wide : floatToFloatBits .f32 tot .f64 = some T
  scal : floatBits .mul .f64 c001 T = some m
  ok : (FloatKind.f64.format.order g m == some .gt) = false

theorem noise_good {tot : Nat} (ft : fin single tot) (l : 1 / 2 ≤ fval single tot) (u : fval single tot ≤ 60) : ∃ r q p g T m, Noise tot r q p g T m := by
  obtain ⟨r, hr, fr, r0, r50, s1, s2⟩ := root_good ft (by grind) (by grind)
  generalize hs : fval single tot = s at *
  have rl : 1 / 2 ≤ fval single r := by
    rcases Rat.le_total (a := 1 / 2) (b := fval single r) with h | h
    · exact h
    · have := mulP (show 0 ≤ fval single r by grind) (show 0 ≤ fval single r by grind) h h; grind
  have ru : fval single r ≤ 8 := by
    rcases Rat.le_total (a := fval single r) (b := 8) with h | h
    · exact h
    · have := mulP (show (0 : Rat) ≤ 8 by decide +kernel) (show (0 : Rat) ≤ 8 by decide +kernel) h h; grind
  obtain ⟨v, hv⟩ : ∃ v : Rat, v = fval single tot / fval single r := ⟨_, rfl⟩
  have hv2 : v * fval single r = fval single tot := by rw [hv]; exact Rat.div_mul_cancel (by grind)
  have hv3 := hv2
  rw [hs] at hv3
  have v0 : 0 ≤ v := by
    rcases Rat.le_total (a := 0) (b := v) with h | h
    · exact h
    · have := Rat.mul_nonneg (show 0 ≤ -v by grind) (show 0 ≤ fval single r by grind); grind
  have vr := Rat.mul_le_mul_of_nonneg_left rl v0
  -- v v r r = s s
  have e1 : v * v * (fval single r * fval single r) = s * s := by
    have : v * v * (fval single r * fval single r) = (v * fval single r) * (v * fval single r) := by grind
    rw [this, hv3]
  have vv := Rat.mul_nonneg v0 v0
  have m1 := Rat.mul_le_mul_of_nonneg_left s1 vv
  have m2 := Rat.mul_le_mul_of_nonneg_left s2 vv
  have ub : v * v ≤ s + s * (2 / 1000000) := by
    apply Rat.le_of_mul_le_mul_right (c := s * (1 - 1 / 1000000)) _ (by grind)
    have := Rat.mul_nonneg (show 0 ≤ s by grind) (show 0 ≤ s by grind)
    grind
  have lb : s - s * (2 / 1000000) ≤ v * v := by
    apply Rat.le_of_mul_le_mul_right (c := s * (1 + 1 / 1000000)) _ (by grind)
    have := Rat.mul_nonneg (show 0 ≤ s by grind) (show 0 ≤ s by grind)
    grind
  have v8 : v ≤ 8 := by
    rcases Rat.le_total (a := v) (b := 8) with h | h
    · exact h
    · have := mulP (show (0 : Rat) ≤ 8 by decide +kernel) (show (0 : Rat) ≤ 8 by decide +kernel) h h; grind
  obtain ⟨q, hq, rq⟩ := div32 ft fr (by grind) v hv2 (by rw [Rat.abs_of_nonneg v0]; unfold big; grind)
  have nq := near_abs rq.near32 (show v.abs ≤ 8 by rw [Rat.abs_of_nonneg v0]; exact v8) (by decide +kernel)
  have bq := abs_bounds nq
  have q9 : (fval single q).abs ≤ 9 := Go.Flt.abs_le (by unfold u32 at *; grind) (by unfold u32 at *; grind)
  have qq := abs_mul_le q9 q9
  obtain ⟨p, hp, rp⟩ := mul32 rq.fin rq.fin (by unfold big; grind)
  have np := abs_bounds (near_abs rp.near32 qq (by decide +kernel))
  have d1 : (fval single q - v).abs ≤ 1 / 1000000 := Go.Flt.abs_le (by unfold u32 at *; grind) (by unfold u32 at *; grind)
  have k1 := abs_bounds (abs_mul_le d1 q9)
  have k2 := abs_bounds (abs_mul_le d1 (show v.abs ≤ 8 by rw [Rat.abs_of_nonneg v0]; exact v8))
  have hg : (fval single p - fval single tot).abs ≤ 1 / 5000 := by
    rw [hs]
    exact Go.Flt.abs_le (by unfold u32 at *; grind) (by unfold u32 at *; grind)
  obtain ⟨g, hg1, fg, vg⟩ := gap8_good rp.fin ft (1 / 5000) hg (by decide +kernel)
  obtain ⟨T, hT, fT, vT⟩ := widen ft
  have cv : fval double c001 ≤ 1 / 999 ∧ 1 / 1000 ≤ fval double c001 := by decide +kernel
  have mm := mulP (show (0 : Rat) ≤ 1 / 1000 by decide +kernel) (show (0 : Rat) ≤ 1 / 2 by decide +kernel) cv.2 l
  have mu := mulP (show 0 ≤ fval double c001 by grind) (show 0 ≤ s by grind) cv.1 u
  obtain ⟨m, hm, rm⟩ := mul64 c001_val.1 fT (by rw [vT, hs, Rat.abs_of_nonneg (by grind)]; unfold big; grind)
  have nm := abs_bounds (near_abs rm.near64 (show (fval double c001 * fval double T).abs ≤ 1 by rw [vT, hs, Rat.abs_of_nonneg (by grind)]; grind) (by decide +kernel))
  rw [vT, hs] at nm
  refine ⟨r, q, p, g, T, m, hr, hq, rq.fin, hp, hg1, hT, hm, ?_⟩
  have h1 := gtr64 fg rm.fin
  rw [decide_eq_false (by unfold u64 at *; grind)] at h1
  exact h1

/-! ### Marks -/
theorem Lst.peaks {xs : Nat → Nat} {n : Nat} (h : Lst xs n) : Peaks xs n := by
  refine ⟨fun i h1 h2 => (max32_good (h.fin (by omega)) (h.fin (by omega))).1, fun i h1 h2 => ?_⟩
  obtain ⟨_, fm, vm⟩ := max32_good (h.fin (i := i - 1) (by omega)) (h.fin (i := i + 1) h2)
  have a1 := h.lo (i := i - 1) (by omega); have a2 := h.hi (i := i - 1) (by omega)
  have b1 := h.lo (i := i + 1) h2; have b2 := h.hi (i := i + 1) h2
  have c1 := h.lo (i := i) (by omega); have c2 := h.hi (i := i) (by omega)
  obtain ⟨r, hr, _⟩ := sub32 (h.fin (i := i) (by omega)) fm (by rw [vm]; apply Go.Flt.abs_le <;> unfold big <;> grind)
  unfold diffW
  rw [hr]; rfl

theorem half_val32 : fin single 1056964608 ∧ fval single 1056964608 = 1 / 2 := by refine ⟨by unfold Go.Flt.fin; decide +kernel, by decide +kernel⟩
theorem two_val32 : fin single 1073741824 ∧ fval single 1073741824 = 2 := by refine ⟨by unfold Go.Flt.fin; decide +kernel, by decide +kernel⟩
theorem three_val32 : fin single 1077936128 ∧ fval single 1077936128 = 3 := by refine ⟨by unfold Go.Flt.fin; decide +kernel, by decide +kernel⟩
theorem one_val32 : fin single 1065353216 ∧ fval single 1065353216 = 1 := by refine ⟨by unfold Go.Flt.fin; decide +kernel, by decide +kernel⟩

theorem mid_step {a b : Nat} (fa : fin single a) (fb : fin single b) (la : (fval single a).abs ≤ 8) (lb : (fval single b).abs ≤ 8) : ∃ s m, floatBits .add .f32 a b = some s ∧ floatBits .mul .f32 1056964608 s = some m ∧ fin single s ∧ fin single m ∧ (fval single s).abs ≤ 17 ∧
    (fval single m - (fval single a + fval single b) * (1 / 2)).abs ≤ 1 / 500000 := by
  have ab := abs_add_le la lb
  obtain ⟨s, hs, rs⟩ := add32 fa fb (by unfold big; grind)
  have ns := abs_bounds (near_abs rs.near32 ab (by decide +kernel))
  have bab := abs_bounds ab
  have ls : (fval single s).abs ≤ 17 := Go.Flt.abs_le (by unfold u32 at *; grind) (by unfold u32 at *; grind)
  have bs := abs_bounds ls
  obtain ⟨m, hm, rm⟩ := mul32 half_val32.1 rs.fin (by rw [half_val32.2]; apply Go.Flt.abs_le <;> unfold big <;> grind)
  rw [half_val32.2] at rm
  have nm := abs_bounds (near_abs rm.near32 (show (1 / 2 * fval single s).abs ≤ 9 from Go.Flt.abs_le (by grind) (by grind)) (by decide +kernel))
  exact ⟨s, m, hs, hm, rs.fin, rm.fin, ls, Go.Flt.abs_le (by unfold u32 at *; grind) (by unfold u32 at *; grind)⟩

theorem Lst.halves {xs : Nat → Nat} {n : Nat} (h : Lst xs n) : Halves xs n := by
  refine ⟨fun i h1 h2 => ?_⟩
  have a := h.abs (i := i - 1) (by omega); have b := h.abs (i := i + 1) h2
  obtain ⟨s, m, hs, hm, fs, fm, _⟩ := mid_step (h.fin (i := i - 1) (by omega)) (h.fin (i := i + 1) h2) (by grind) (by grind)
  refine ⟨s, hs, ?_⟩
  have e : halfW xs i = m := by unfold halfW; rw [hs, Option.bind_some, hm]; rfl
  rw [e]; exact ⟨hm, fm⟩

theorem Lst.half_gap {xs : Nat → Nat} {n i : Nat} (h : Lst xs n) (h1 : 1 ≤ i) (h2 : i + 1 < n) : ∃ s d g, floatBits .add .f32 (xs (i - 1)) (xs (i + 1)) = some s ∧ floatBits .quo .f32 s 1073741824 = some d ∧ gap8 (halfW xs i) d = some g ∧ (FloatKind.f64.format.order g c001 == some .gt) = false := by
  have a := h.abs (i := i - 1) (by omega); have b := h.abs (i := i + 1) h2
  obtain ⟨s, m, hs, hm, fs, fm, ls, dm⟩ := mid_step (h.fin (i := i - 1) (by omega)) (h.fin (i := i + 1) h2) (by grind) (by grind)
  have e : halfW xs i = m := by unfold halfW; rw [hs, Option.bind_some, hm]; rfl
  have bs := abs_bounds ls
  obtain ⟨s', hs', rs⟩ := add32 (h.fin (i := i - 1) (by omega)) (h.fin (i := i + 1) h2) (by have := abs_add_le a b; unfold big; grind)
  obtain rfl : s = s' := Option.some.inj (hs.symm.trans hs')
  have ns := abs_bounds (near_abs rs.near32 (abs_add_le a b) (by decide +kernel))
  obtain ⟨d, hd, rd⟩ := div32 fs two_val32.1 (by rw [two_val32.2]; decide +kernel) (fval single s * (1 / 2)) (by rw [two_val32.2]; grind) (by apply Go.Flt.abs_le <;> unfold big <;> grind)
  have nd := abs_bounds (near_abs rd.near32 (show (fval single s * (1 / 2)).abs ≤ 9 from Go.Flt.abs_le (by grind) (by grind)) (by decide +kernel))
  have bm := abs_bounds dm
  obtain ⟨g, hg, og⟩ := gap_fine fm rd.fin (d := 1 / 2000) (Go.Flt.abs_le (by unfold u32 at *; grind) (by unfold u32 at *; grind)) (by decide +kernel)
  exact ⟨s, d, g, hs, hd, by rw [e]; exact hg, og⟩

/-- The lowest and the highest of the first i numbers, and the first. -/
def lowTo (xs : Nat → Nat) : Nat → Nat
  | 0 => xs 0
  | i + 1 => minW .f32 (lowTo xs i) (xs i)
def highTo (xs : Nat → Nat) : Nat → Nat
  | 0 => xs 0
  | i + 1 => maxW .f32 (highTo xs i) (xs i)

theorem Lst.low_good {xs : Nat → Nat} {n : Nat} (h : Lst xs n) (h1 : 1 ≤ n) : ∀ i, i ≤ n → Go.Flt.fin single (lowTo xs i) ∧ 1 / 4 ≤ fval single (lowTo xs i) ∧ fval single (lowTo xs i) ≤ 4 ∧ ∀ j, j < i → fval single (lowTo xs i) ≤ fval single (xs j)
  | 0, _ => ⟨h.fin (i := 0) (by omega), h.lo (i := 0) (by omega), h.hi (i := 0) (by omega), fun j hj => absurd hj (by omega)⟩
  | i + 1, hi => by
    obtain ⟨a, b, c, d⟩ := Lst.low_good h h1 i (by omega)
    obtain ⟨_, f, v⟩ := min32_good a (h.fin (i := i) (by omega))
    have l := h.lo (i := i) (by omega); have u := h.hi (i := i) (by omega)
    refine ⟨f, by unfold lowTo; rw [v]; grind, by unfold lowTo; rw [v]; grind, fun j hj => ?_⟩
    unfold lowTo; rw [v]
    by_cases e : j = i
    · rw [e]; grind
    · have := d j (by omega); grind
theorem Lst.high_good {xs : Nat → Nat} {n : Nat} (h : Lst xs n) (h1 : 1 ≤ n) : ∀ i, i ≤ n → Go.Flt.fin single (highTo xs i) ∧ 1 / 4 ≤ fval single (highTo xs i) ∧ fval single (highTo xs i) ≤ 4 ∧ ∀ j, j < i → fval single (xs j) ≤ fval single (highTo xs i)
  | 0, _ => ⟨h.fin (i := 0) (by omega), h.lo (i := 0) (by omega), h.hi (i := 0) (by omega), fun j hj => absurd hj (by omega)⟩
  | i + 1, hi => by
    obtain ⟨a, b, c, d⟩ := Lst.high_good h h1 i (by omega)
    obtain ⟨_, f, v⟩ := max32_good a (h.fin (i := i) (by omega))
    have l := h.lo (i := i) (by omega); have u := h.hi (i := i) (by omega)
    refine ⟨f, by unfold highTo; rw [v]; grind, by unfold highTo; rw [v]; grind, fun j hj => ?_⟩
    unfold highTo; rw [v]
    by_cases e : j = i
    · rw [e]; grind
    · have := d j (by omega); grind
end Go.Flt
