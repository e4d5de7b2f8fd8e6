/-
  Sums, differences, products, comparisons and changes of format of finite floating words, as rational numbers rounded once.
-/
import Derived.Test.YtdcfailgakofeaaFlt
import Derived.Laws.FloatArith
namespace Go.Flt
open Ieee

/-- v is a number of the format (of a magnitude below the top). -/
def Rep (f : Format) (v : Rat) : Prop := ∃ (c : Nat) (e : Int), v.abs = (c : Rat) * P2 e ∧ c < 2 ^ (f.fractionBits + 1) ∧ f.leastPlace ≤ e

/-- r is v, rounded once. -/
structure Rnd (f : Format) (v : Rat) (r : Nat) : Prop where
  fin : fin f r
  up : 2 * fval f r ≤ 2 * v + (v.abs * P2 (-f.fractionBits) + P2 f.leastPlace)
  down : 2 * v ≤ 2 * fval f r + (v.abs * P2 (-f.fractionBits) + P2 f.leastPlace)
  pos : 0 ≤ v → 0 ≤ fval f r
  neg : v ≤ 0 → fval f r ≤ 0
  exact : Rep f v → fval f r = v

theorem nn_mul (m : Nat) (e : Int) : 0 ≤ (m : Rat) * P2 e := Rat.mul_nonneg (by exact_mod_cast Nat.zero_le _) (P2_nn _)

theorem abs_number (neg : Bool) (m : Nat) (e : Int) : (Datum.val (.number neg m e)).abs = (m : Rat) * P2 e := by
  have h := nn_mul m e
  unfold Datum.val
  cases neg
  · simp only [Bool.false_eq_true, if_false]; exact Rat.abs_of_nonneg h
  · simp only [if_true]; rw [Rat.abs_neg]; exact Rat.abs_of_nonneg h

theorem nearest_rnd (f : Format) (hE : 2 ≤ f.exponentBits) (neg : Bool) (mag : Nat) (place : Int) (h : (Datum.val (.number neg mag place)).abs < P2 (top f)) :
    Rnd f (Datum.val (.number neg mag place)) (f.nearest neg mag place) := by
  rw [abs_number] at h
  have hnn := nn_mul mag place
  obtain ⟨hf, q, hq, q0, q1, q2, q3⟩ := nearest_near f hE neg mag place h
  have hx : Rep f (Datum.val (.number neg mag place)) → q = (mag : Rat) * P2 place := by
    rintro ⟨c, e, h1, h2, h3⟩
    rw [abs_number] at h1
    exact q3 c e h1 h2 h3
  have hz : (mag : Rat) * P2 place = 0 → q = 0 := fun hz => by
    rw [← hz]
    exact q3 0 f.leastPlace (by rw [hz]; simp) (Nat.two_pow_pos _) (Int.le_refl _)
  refine ⟨hf, ?_, ?_, ?_, ?_, ?_⟩
  · rw [abs_number, hq]; unfold Datum.val; cases neg <;> simp only [Bool.false_eq_true, if_false, if_true] <;> grind
  · rw [abs_number, hq]; unfold Datum.val; cases neg <;> simp only [Bool.false_eq_true, if_false, if_true] <;> grind
  · rw [hq]; unfold Datum.val; cases neg <;> simp only [Bool.false_eq_true, if_false, if_true] <;> grind
  · rw [hq]; unfold Datum.val; cases neg <;> simp only [Bool.false_eq_true, if_false, if_true] <;> grind
  · intro hr; rw [hq, hx hr]; unfold Datum.val; cases neg <;> rfl

theorem signed_val (neg : Bool) (m k : Nat) (e : Int) : ((signed neg m k : Int) : Rat) * P2 e = Datum.val (.number neg m (e + k)) := by
  unfold signed Datum.val
  have := shift_val m k e
  cases neg
  · simp only [Bool.false_eq_true, if_false]; rw [Rat.intCast_natCast]; exact this
  · simp only [if_true]; rw [Rat.intCast_neg, Rat.intCast_natCast]; grind

theorem int_val (s : Bool) (n : Int) (e : Int) (hs : n = 0 ∨ s = decide (n < 0)) : Datum.val (.number s n.natAbs e) = (n : Rat) * P2 e := by
  unfold Datum.val
  rcases Int.lt_trichotomy n 0 with h | h | h
  · rcases hs with h0 | rfl
    · omega
    · rw [decide_eq_true h]
      simp only [if_true]
      obtain ⟨m, rfl⟩ : ∃ m : Nat, n = -(m : Int) := ⟨n.natAbs, by omega⟩
      rw [Int.natAbs_neg, Int.natAbs_natCast, Rat.intCast_neg, Rat.intCast_natCast]
      grind
  · subst h
    simp
  · rcases hs with h0 | rfl
    · omega
    · rw [decide_eq_false (by omega)]
      simp only [Bool.false_eq_true, if_false]
      obtain ⟨m, rfl⟩ : ∃ m : Nat, n = (m : Int) := ⟨n.natAbs, by omega⟩
      rw [Int.natAbs_natCast, Rat.intCast_natCast]

theorem sum_val (s t : Bool) (m n : Nat) (i j : Int) :
    ∃ ss mm b, (Datum.number s m i).sum (.number t n j) = some (.number ss mm b) ∧ Datum.val (.number ss mm b) = Datum.val (.number s m i) + Datum.val (.number t n j) := by
  refine ⟨_, _, _, rfl, ?_⟩
  rw [int_val _ _ _ (by
    by_cases h : signed s m (i - min i j).toNat + signed t n (j - min i j).toNat = 0
    · exact Or.inl h
    · right; rw [if_neg h])]
  rw [Rat.intCast_add, Rat.add_mul, signed_val, signed_val]
  congr 3 <;> omega

theorem opp_val (s : Bool) (m : Nat) (i : Int) : Datum.val (.number (!s) m i) = -Datum.val (.number s m i) := by
  unfold Datum.val; cases s <;> simp

theorem prod_val (s t : Bool) (m n : Nat) (i j : Int) : Datum.val (.number (s ^^ t) (m * n) (i + j)) = Datum.val (.number s m i) * Datum.val (.number t n j) := by
  unfold Datum.val
  simp only []
  rw [Rat.natCast_mul, P2_add]
  cases s <;> cases t <;> simp <;> grind

theorem add_rnd (f : Format) (hE : 2 ≤ f.exponentBits) {x y : Nat} (hx : fin f x) (hy : fin f y) (h : (fval f x + fval f y).abs < P2 (top f)) :
    ∃ r, f.add x y = some r ∧ Rnd f (fval f x + fval f y) r := by
  obtain ⟨s, m, i, e1, _⟩ := fin_read hx
  obtain ⟨t, n, j, e2, _⟩ := fin_read hy
  obtain ⟨ss, mm, b, e3, e4⟩ := sum_val s t m n i j
  unfold fval at *
  unfold Format.add
  rw [e1, e2] at h
  rw [← e4] at h
  rw [e1, e2, e3, ← e4]
  exact ⟨_, rfl, nearest_rnd f hE _ _ _ h⟩

theorem sub_rnd (f : Format) (hE : 2 ≤ f.exponentBits) {x y : Nat} (hx : fin f x) (hy : fin f y) (h : (fval f x - fval f y).abs < P2 (top f)) :
    ∃ r, f.sub x y = some r ∧ Rnd f (fval f x - fval f y) r := by
  obtain ⟨s, m, i, e1, _⟩ := fin_read hx
  obtain ⟨t, n, j, e2, _⟩ := fin_read hy
  obtain ⟨ss, mm, b, e3, e4⟩ := sum_val s (!t) m n i j
  rw [opp_val, ← Rat.sub_eq_add_neg] at e4
  unfold fval at *
  unfold Format.sub
  rw [e1, e2] at h
  rw [← e4] at h
  rw [e1, e2]
  simp only [Datum.opposite]
  rw [e3, ← e4]
  exact ⟨_, rfl, nearest_rnd f hE _ _ _ h⟩

theorem mul_rnd (f : Format) (hE : 2 ≤ f.exponentBits) {x y : Nat} (hx : fin f x) (hy : fin f y) (h : (fval f x * fval f y).abs < P2 (top f)) :
    ∃ r, f.mul x y = some r ∧ Rnd f (fval f x * fval f y) r := by
  obtain ⟨s, m, i, e1, _⟩ := fin_read hx
  obtain ⟨t, n, j, e2, _⟩ := fin_read hy
  have e4 := prod_val s t m n i j
  unfold fval at *
  unfold Format.mul
  rw [e1, e2] at h
  rw [← e4] at h
  rw [e1, e2, ← e4]
  exact ⟨_, rfl, nearest_rnd f hE _ _ _ h⟩

/-- Comparing finite words is comparing their values. -/
theorem order_val (f : Format) {x y : Nat} (hx : fin f x) (hy : fin f y) :
    f.order x y = some (if fval f x < fval f y then .lt else if fval f x = fval f y then .eq else .gt) := by
  obtain ⟨s, m, i, e1, _⟩ := fin_read hx
  obtain ⟨t, n, j, e2, _⟩ := fin_read hy
  unfold fval Format.order
  rw [e1, e2]
  simp only [Datum.order]
  have h1 : Datum.val (.number s m i) = ((signed s m (i - min i j).toNat : Int) : Rat) * P2 (min i j) := by rw [signed_val]; congr 2; omega
  have h2 : Datum.val (.number t n j) = ((signed t n (j - min i j).toNat : Int) : Rat) * P2 (min i j) := by rw [signed_val]; congr 2; omega
  rw [h1, h2]
  generalize signed s m (i - min i j).toNat = a
  generalize signed t n (j - min i j).toNat = b
  have hp := P2_pos (min i j)
  rcases Int.lt_trichotomy a b with h | h | h
  · have hq : (a : Rat) * P2 (min i j) < (b : Rat) * P2 (min i j) := Rat.mul_lt_mul_of_pos_right (by exact_mod_cast h) hp
    rw [if_pos hq]
    congr 1
    exact Int.compare_eq_lt.2 h
  · subst h
    rw [if_neg (Rat.lt_irrefl), if_pos rfl]
    simp
  · have hq : (b : Rat) * P2 (min i j) < (a : Rat) * P2 (min i j) := Rat.mul_lt_mul_of_pos_right (by exact_mod_cast h) hp
    rw [if_neg (by grind), if_neg (by grind)]
    congr 1
    exact Int.compare_eq_gt.2 h

/-! ### From one format to another, from whole numbers; the opposite -/
theorem hE32 : 2 ≤ FloatKind.f32.format.exponentBits := by decide
theorem hE64 : 2 ≤ FloatKind.f64.format.exponentBits := by decide

theorem fin_mag {f : Format} {x : Nat} (h : fin f x) : ∃ neg m e, f.read x = .number neg m e ∧ f.leastPlace ≤ e ∧ m < 2 ^ (f.fractionBits + 1) ∧ e < f.leastPlace + 2 ^ f.exponentBits := by
  have hb : 0 < f.binade := Nat.two_pow_pos _
  unfold Format.read
  simp only []
  split
  · refine ⟨_, _, _, rfl, Int.le_refl _, ?_, ?_⟩
    · rename_i hr
      rw [← two_b]; omega
    · have : (0 : Int) < 2 ^ f.exponentBits := by have := Nat.two_pow_pos f.exponentBits; exact_mod_cast this
      omega
  · rw [if_pos h.2]
    refine ⟨_, _, _, rfl, by omega, ?_, ?_⟩
    · rw [← two_b]
      have := Nat.mod_lt (x % f.signWeight) hb
      omega
    · have h1 : x % f.signWeight / f.binade < 2 ^ f.exponentBits - 1 := by
        rw [Nat.div_lt_iff_lt_mul hb]
        exact h.2
      have h2 : ((2 ^ f.exponentBits : Nat) : Int) = (2 : Int) ^ f.exponentBits := by simp
      rw [← h2]
      generalize x % f.signWeight / f.binade = q at *
      generalize 2 ^ f.exponentBits = E at *
      omega

/-- A finite single's number fits the double format, below its top. -/
theorem f32_small {x : Nat} (h : fin single x) : (fval single x).abs < P2 200 := by
  obtain ⟨s, m, e, h1, h2, h3, h4⟩ := fin_mag h
  unfold fval
  rw [h1, abs_number]
  have e1 : (m : Rat) * P2 e < ((2 ^ 24 : Nat) : Rat) * P2 e := Rat.mul_lt_mul_of_pos_right (by exact_mod_cast h3) (P2_pos e)
  have e2 : ((2 ^ 24 : Nat) : Rat) * P2 e = P2 (24 + e) := by rw [P2_add]; rfl
  have e3 : P2 (24 + e) ≤ P2 200 := P2_mono (by
    have : single.leastPlace = -149 := rfl
    have : ((2 : Int) ^ single.exponentBits) = 256 := rfl
    omega)
  grind

theorem top64 : top double = 1023 := rfl
theorem top32 : top single = 127 := rfl

theorem single_read {x : Nat} (h : fin single x) : ∃ neg m e, single.read x = .number neg m e ∧ Rep double (fval single x) := by
  obtain ⟨s, m, e, h1, h2, h3, h4⟩ := fin_mag h
  refine ⟨s, m, e, h1, m, e, ?_, ?_, ?_⟩
  · unfold fval; rw [h1, abs_number]
  · have : (2 : Nat) ^ (single.fractionBits + 1) ≤ 2 ^ (double.fractionBits + 1) := by decide
    omega
  · have : single.leastPlace = -149 := rfl
    have : double.leastPlace = -1074 := rfl
    omega

theorem fin_noinf {f : Format} {x : Nat} (h : fin f x) : (f.read x).isInfinity = false := by
  obtain ⟨s, m, e, h1, _⟩ := fin_read h
  rw [h1]; rfl

/-- 'float64(x)' of a finite float32 is exact. -/
theorem widen {x : Nat} (h : fin single x) : ∃ r, floatToFloatBits .f32 x .f64 = some r ∧ fin double r ∧ fval double r = fval single x := by
  obtain ⟨s, m, e, h1, h2⟩ := single_read h
  have hv : fval single x = Datum.val (.number s m e) := by unfold fval; rw [h1]
  have hs := f32_small h
  have hR := nearest_rnd double hE64 s m e (by
    rw [← hv, top64]
    have := P2_mono (show (200 : Int) ≤ 1023 by decide)
    grind)
  refine ⟨_, ?_, hR.fin, by rw [hv]; exact hR.exact (by rw [← hv]; exact h2)⟩
  unfold floatToFloatBits FloatKind.decode FloatKind.encode
  rw [if_neg (by decide)]
  simp only [FloatKind.format]
  rw [h1]
  simp only [Format.write]
  exact if_neg (by have := fin_noinf hR.fin; simpa using this)

/-- 'float32(x)' of a finite float64 below the top. -/
theorem narrow {x : Nat} (h : fin double x) (hb : (fval double x).abs < P2 127) : ∃ r, floatToFloatBits .f64 x .f32 = some r ∧ Rnd single (fval double x) r := by
  obtain ⟨s, m, e, h1, _⟩ := fin_read h
  have hv : fval double x = Datum.val (.number s m e) := by unfold fval; rw [h1]
  have hR := nearest_rnd single hE32 s m e (by rw [← hv, top32]; exact hb)
  refine ⟨_, ?_, by rw [hv]; exact hR⟩
  unfold floatToFloatBits FloatKind.decode FloatKind.encode
  rw [if_neg (by decide)]
  simp only [FloatKind.format]
  rw [h1]
  simp only [Format.write]
  exact if_neg (by have := fin_noinf hR.fin; simpa using this)

theorem natAbs_abs (n : Int) : ((n : Rat)).abs = ((n.natAbs : Nat) : Rat) := by
  rcases Int.lt_or_le n 0 with h | h
  · obtain ⟨m, rfl⟩ : ∃ m : Nat, n = -(m : Int) := ⟨n.natAbs, by omega⟩
    rw [Int.natAbs_neg, Int.natAbs_natCast, Rat.intCast_neg, Rat.intCast_natCast, Rat.abs_neg]
    exact Rat.abs_of_nonneg (by exact_mod_cast Nat.zero_le _)
  · obtain ⟨m, rfl⟩ : ∃ m : Nat, n = (m : Int) := ⟨n.natAbs, by omega⟩
    rw [Int.natAbs_natCast, Rat.intCast_natCast]
    exact Rat.abs_of_nonneg (by exact_mod_cast Nat.zero_le _)

/-- 'float32(n)', 'float64(n)' of a whole number that the format has. -/
theorem ofInt (k : FloatKind) (n : Int) (hn : n.natAbs < 2 ^ (k.format.fractionBits + 1)) : fin k.format (k.nearest n) ∧ fval k.format (k.nearest n) = n := by
  have hv : Datum.val (.number (decide (n < 0)) n.natAbs 0) = (n : Rat) := by
    rw [int_val _ _ _ (Or.inr rfl), P2_zero, Rat.mul_one]
  have hE : 2 ≤ k.format.exponentBits := by cases k <;> decide
  have hl : k.format.leastPlace ≤ 0 := by cases k <;> decide
  have ht : (k.format.fractionBits + 1 : Nat) ≤ top k.format := by cases k <;> decide
  have hlt : ((n : Rat)).abs < P2 (top k.format) := by
    rw [natAbs_abs]
    have h1 : ((n.natAbs : Nat) : Rat) < ((2 ^ (k.format.fractionBits + 1) : Nat) : Rat) := by exact_mod_cast hn
    rw [← P2_nat] at h1
    have := P2_mono ht
    grind
  have hR := nearest_rnd k.format hE (decide (n < 0)) n.natAbs 0 (by rw [hv]; exact hlt)
  have e : k.nearest n = k.format.nearest (decide (n < 0)) n.natAbs 0 := by
    unfold FloatKind.nearest FloatKind.encode Format.write; rfl
  rw [hv] at hR
  rw [e]
  exact ⟨hR.fin, hR.exact ⟨n.natAbs, 0, by rw [natAbs_abs, P2_zero, Rat.mul_one], hn, hl⟩⟩
end Go.Flt
