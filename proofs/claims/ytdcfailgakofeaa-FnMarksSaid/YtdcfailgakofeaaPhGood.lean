/-
  The phasor of every tame number of turns is told, and its parts are finite, of an absolute value of at most 1.7.
-/
import Derived.Test.YtdcfailgakofeaaFltUse
namespace Go.Flt
open Ieee

theorem cut_zero (neg : Bool) (N d : Nat) : Toward.zero.cut neg N d * 2 ^ d ≤ N ∧ N < (Toward.zero.cut neg N d + 1) * 2 ^ d := by
  have hlog : N < 2 ^ (N.log2 + 1) := Nat.lt_log2_self
  unfold Toward.cut
  simp only [Bool.toNat_false, Nat.add_zero]
  by_cases h : d ≤ N.log2 + 2
  · rw [Nat.min_eq_left h]
    simp only [Nat.shiftLeft_eq, Nat.one_mul]
    have hp : 0 < 2 ^ d := Nat.two_pow_pos d
    have e1 := Nat.div_add_mod N (2 ^ d)
    have e2 := Nat.mod_lt N hp
    have e3 : N / 2 ^ d * 2 ^ d = 2 ^ d * (N / 2 ^ d) := Nat.mul_comm _ _
    exact ⟨Nat.div_mul_le_self _ _, by rw [Nat.add_mul, Nat.one_mul]; omega⟩
  · rw [Nat.min_eq_right (by omega)]
    simp only [Nat.shiftLeft_eq, Nat.one_mul]
    have hp : 2 ^ (N.log2 + 2) = 2 * 2 ^ (N.log2 + 1) := by rw [Nat.pow_succ]; omega
    rw [Nat.div_eq_of_lt (by omega)]
    have : 2 ^ (N.log2 + 2) ≤ 2 ^ d := Nat.pow_le_pow_right (by decide) (by omega)
    omega

theorem cutOff_val {t : Nat} (h : Tame t) : fin double (cutOff t) ∧
    ((0 ≤ fval double t ∧ 0 ≤ fval double (cutOff t) ∧ fval double (cutOff t) ≤ fval double t ∧ fval double t < fval double (cutOff t) + 1) ∨
     (fval double t ≤ 0 ∧ fval double (cutOff t) ≤ 0 ∧ fval double t ≤ fval double (cutOff t) ∧ fval double (cutOff t) < fval double t + 1)) ∧
    ∃ s c, cutOff t = double.nearest s c 0 ∧ (FloatKind.f64.decode t).toInt .zero = some (signed s c 0) ∧ c < 2 ^ 52 ∧ fval double (cutOff t) = (if s then (-1 : Rat) else 1) * (c : Rat) := by
  obtain ⟨hf, hb⟩ := h
  obtain ⟨s, m, e, h1, _⟩ := fin_read hf
  have hv : fval double t = Datum.val (.number s m e) := by unfold fval; rw [h1]
  have hc : cutOff t = double.nearest s (Toward.zero.cut s (m <<< e.toNat) (-e).toNat) 0 := by
    unfold cutOff FloatKind.decode FloatKind.encode
    have : FloatKind.f64.format = double := rfl
    rw [this, h1]; rfl
  have hi : (FloatKind.f64.decode t).toInt .zero = some (signed s (Toward.zero.cut s (m <<< e.toNat) (-e).toNat) 0) := by
    unfold FloatKind.decode
    have : FloatKind.f64.format = double := rfl
    rw [this, h1]; rfl
  generalize hcc : Toward.zero.cut s (m <<< e.toNat) (-e).toNat = c at *
  have hcb : (c : Rat) ≤ (m : Rat) * P2 e ∧ (m : Rat) * P2 e < (c : Rat) + 1 := by
    obtain ⟨k1, k2⟩ := cut_zero s (m <<< e.toNat) (-e).toNat
    rw [hcc] at k1 k2
    have hmv : (m : Rat) * P2 e = ((m <<< e.toNat : Nat) : Rat) * P2 (-((-e).toNat : Int)) := by
      rw [shift_val]; congr 2; omega
    have hone : ((2 ^ (-e).toNat : Nat) : Rat) * P2 (-((-e).toNat : Int)) = 1 := by rw [← P2_nat, ← P2_add, ← P2_zero]; congr 1; omega
    have hp := P2_pos (-((-e).toNat : Int))
    have k1' : ((c * 2 ^ (-e).toNat : Nat) : Rat) ≤ ((m <<< e.toNat : Nat) : Rat) := by exact_mod_cast k1
    have k2' : ((m <<< e.toNat : Nat) : Rat) < (((c + 1) * 2 ^ (-e).toNat : Nat) : Rat) := by exact_mod_cast k2
    have j1 := Rat.mul_le_mul_of_nonneg_right k1' (Rat.le_of_lt hp)
    have j2 := Rat.mul_lt_mul_of_pos_right k2' hp
    rw [← hmv, Rat.natCast_mul, Rat.mul_assoc, hone, Rat.mul_one] at j1 j2
    refine ⟨j1, ?_⟩
    rw [Rat.natCast_add] at j2
    exact j2
  have hcv : (Datum.val (.number s c 0)).abs = (c : Rat) := by rw [abs_number, P2_zero, Rat.mul_one]
  rw [hv, abs_number] at hb
  have hcl : (c : Rat) < P2 52 := by grind
  have hcn : c < 2 ^ 52 := by
    have : (c : Rat) < ((2 ^ 52 : Nat) : Rat) := by rw [← P2_nat]; exact hcl
    exact_mod_cast this
  have h52 : P2 52 < P2 (top double) := by
    have h1 : P2 52 < P2 53 := by have := P2_half 53; have := P2_pos 52; have e : (53 - 1 : Int) = 52 := by decide
                                  rw [e] at *; grind
    have := P2_mono (show (53 : Int) ≤ top double by decide)
    grind
  have hR := nearest_rnd double hE64 s c 0 (by rw [hcv]; grind)
  have hx := hR.exact ⟨c, 0, by rw [hcv, P2_zero, Rat.mul_one], by
    have : (2 : Nat) ^ 52 < 2 ^ (double.fractionBits + 1) := by decide
    omega, by decide⟩
  refine ⟨by rw [hc]; exact hR.fin, ?_, s, c, hc, hi, hcn, by rw [hc, hx, val_sign, P2_zero, Rat.mul_one]⟩
  rw [hc, hx, hv]
  have hm0 := nn_mul m e
  have hc0 : (0 : Rat) ≤ (c : Rat) := by exact_mod_cast Nat.zero_le _
  rw [val_sign, val_sign, P2_zero, Rat.mul_one]
  cases s
  · left; simp only [Bool.false_eq_true, if_false]; grind
  · right; simp only [if_true]; grind

theorem fin_zero : fin double 0 ∧ fval double 0 = 0 := by
  refine ⟨by unfold fin; decide +kernel, ?_⟩
  unfold fval
  rw [show double.read 0 = .number false 0 (-1074) by decide +kernel]
  unfold Datum.val; simp

theorem const64 (x : Nat) (m : Nat) (e : Int) (v : Rat) (h1 : double.read x = .number false m e) (h2 : (m : Rat) * P2 e = v) (h3 : x < 2 * double.signWeight ∧ x % double.signWeight < double.infRung) : fin double x ∧ fval double x = v := by
  refine ⟨h3, ?_⟩
  unfold fval
  rw [h1]; unfold Datum.val; simpa using h2

theorem one_val : fin double one64 ∧ fval double one64 = 1 := const64 _ 4503599627370496 (-52) _ (by decide +kernel) (by decide +kernel) (by decide +kernel)
theorem half_val : fin double half64 ∧ fval double half64 = 1 / 2 := const64 _ 4503599627370496 (-53) _ (by decide +kernel) (by decide +kernel) (by decide +kernel)
theorem quarter_val : fin double quarter64 ∧ fval double quarter64 = 1 / 4 := const64 _ 4503599627370496 (-54) _ (by decide +kernel) (by decide +kernel) (by decide +kernel)
theorem turn_val : fin double turn64 ∧ fval double turn64 = 7074237752028440 / 1125899906842624 := const64 _ 7074237752028440 (-50) _ (by decide +kernel) (by decide +kernel) (by decide +kernel)

abbrev eps : Rat := 1 / 1000000000000

theorem wholeOf_val {t : Nat} (h : Tame t) : fin double (wholeOf t) ∧ fval double (wholeOf t) = fval double (cutOff t) := by
  obtain ⟨h1, _⟩ := cutOff_val h
  unfold wholeOf
  rw [eql64 h1 fin_zero.1, fin_zero.2]
  by_cases hz : fval double (cutOff t) = 0
  · rw [decide_eq_true hz]; simp only [if_true]; exact ⟨fin_zero.1, by rw [fin_zero.2, hz]⟩
  · rw [decide_eq_false hz]; simp only [Bool.false_eq_true, if_false]; exact ⟨h1, trivial⟩

theorem part_good {t : Nat} (h : Tame t) : ∃ f, partOf t = some f ∧ fin double f ∧ -eps ≤ fval double f ∧ fval double f ≤ 1 + eps := by
  obtain ⟨hw, hwv⟩ := wholeOf_val h
  obtain ⟨_, hc, _⟩ := cutOff_val h
  rw [← hwv] at hc
  have hd : (fval double t - fval double (wholeOf t)).abs ≤ 1 := by
    refine abs_le ?_ ?_ <;> rcases hc with hc | hc <;> grind
  obtain ⟨f, hf, hR⟩ := sub64 h.1 hw (by grind)
  have hn := hR.near64.at hd (by grind)
  unfold partOf
  rw [hf, Option.bind_some, lss64 hR.fin fin_zero.1, fin_zero.2]
  have hb := abs_bounds hd
  by_cases hl : fval double f < 0
  · rw [decide_eq_true hl]
    simp only [if_true]
    have hs : (fval double f + fval double one64).abs ≤ 1 := by rw [one_val.2]; exact abs_le (by grind) (by grind)
    obtain ⟨r, hr, hR2⟩ := add64 hR.fin one_val.1 (by grind)
    have hn2 := hR2.near64.at hs (by grind)
    rw [one_val.2] at hn2
    exact ⟨r, hr, hR2.fin, by grind, by grind⟩
  · rw [decide_eq_false hl]
    simp only [Bool.false_eq_true, if_false]
    exact ⟨f, rfl, hR.fin, by grind, by grind⟩

theorem den_good : ∀ j, j < 8 → fin double (den j) ∧ fval double (den j) = ((2 * (8 - (j : Int)) * (2 * (8 - (j : Int)) + 1) : Int) : Rat) := by
  intro j hj
  exact ofInt .f64 _ (by
    have : ∀ j : Nat, j < 8 → (2 * (8 - (j : Int)) * (2 * (8 - (j : Int)) + 1)).natAbs < 2 ^ (FloatKind.f64.format.fractionBits + 1) := by decide
    exact this j hj)

/-- One step of the polynomial keeps a number from 0 to 1.01. -/
theorem pol_step_good {u p j : Nat} (hj : j < 8) (hu : fin double u) (hp : fin double p) (u0 : 0 ≤ fval double u) (u1 : fval double u ≤ 26 / 10) (p0 : 0 ≤ fval double p) (p1 : fval double p ≤ 101 / 100) :
    ∃ r, polStep u p j = some r ∧ fin double r ∧ 0 ≤ fval double r ∧ fval double r ≤ 101 / 100 := by
  have hm : (fval double u * fval double p).abs ≤ 2626 / 1000 := by
    have := abs_mul_le (abs_le u1 (by grind)) (abs_le p1 (by grind))
    grind
  have hm0 : 0 ≤ fval double u * fval double p := Rat.mul_nonneg u0 p0
  obtain ⟨m, hm1, hR⟩ := mul64 hu hp (by grind)
  have hn := hR.near64.at hm (by grind)
  have hm00 := hR.pos hm0
  have hmb := abs_bounds hm
  obtain ⟨hd1, hd2⟩ := den_good j hj
  have hD : (6 : Rat) ≤ fval double (den j) := by
    rw [hd2]
    have : ∀ j : Nat, j < 8 → (6 : Int) ≤ 2 * (8 - (j : Int)) * (2 * (8 - (j : Int)) + 1) := by decide
    exact_mod_cast this j hj
  have hD0 : fval double (den j) ≠ 0 := by grind
  have hq : ∃ v : Rat, v * fval double (den j) = fval double m ∧ 0 ≤ v ∧ v ≤ 1 / 2 := by
    refine ⟨fval double m / fval double (den j), Rat.div_mul_cancel hD0, ?_, ?_⟩
    · refine Rat.le_of_mul_le_mul_right (c := fval double (den j)) ?_ (by grind)
      rw [Rat.div_mul_cancel hD0]; grind
    · refine Rat.le_of_mul_le_mul_right (c := fval double (den j)) ?_ (by grind)
      rw [Rat.div_mul_cancel hD0]; grind
  obtain ⟨v, hv, v0, v1⟩ := hq
  have hva : v.abs ≤ 1 / 2 := abs_le v1 (by grind)
  obtain ⟨q, hq1, hQ⟩ := div64 hR.fin hd1 hD0 v hv (by grind)
  have hqn := hQ.near64.at hva (by grind)
  have hq0 := hQ.pos v0
  have hs : (fval double one64 - fval double q).abs ≤ 1 := by rw [one_val.2]; exact abs_le (by grind) (by grind)
  obtain ⟨r, hr, hS⟩ := sub64 one_val.1 hQ.fin (by grind)
  have hrn := hS.near64.at hs (by grind)
  rw [one_val.2] at hrn
  refine ⟨r, ?_, hS.fin, by grind, by grind⟩
  unfold polStep
  rw [hm1, Option.bind_some, hq1, Option.bind_some]
  exact hr

theorem pol_good {u : Nat} (hu : fin double u) (u0 : 0 ≤ fval double u) (u1 : fval double u ≤ 26 / 10) : ∀ j, j ≤ 8 → ∃ r, pol u j = some r ∧ fin double r ∧ 0 ≤ fval double r ∧ fval double r ≤ 101 / 100
  | 0, _ => ⟨one64, rfl, one_val.1, by rw [one_val.2]; decide +kernel, by rw [one_val.2]; decide +kernel⟩
  | j + 1, hj => by
    obtain ⟨p, hp, hf, p0, p1⟩ := pol_good hu u0 u1 j (by omega)
    obtain ⟨r, hr, h⟩ := pol_step_good (show j < 8 by omega) hu hf u0 u1 p0 p1
    exact ⟨r, by rw [pol, hp, Option.bind_some]; exact hr, h⟩

theorem xor_top {x : Nat} (h : x < 2 ^ 63) : x ^^^ 2 ^ 63 = 2 ^ 63 + x := by
  have h1 := Nat.two_pow_add_eq_or_of_lt h 1
  rw [Nat.mul_one] at h1
  rw [h1]
  apply Nat.eq_of_testBit_eq
  intro i
  simp only [Nat.testBit_xor, Nat.testBit_or, Nat.testBit_two_pow]
  by_cases hi : 63 = i
  · subst hi; simp [Nat.testBit_lt_two_pow h]
  · simp [hi]

theorem xor_top' {x : Nat} (h : x < 2 ^ 63) : (2 ^ 63 + x) ^^^ 2 ^ 63 = x := by
  rw [← xor_top h, Nat.xor_assoc, Nat.xor_self, Nat.xor_zero]

theorem opp_good {x : Nat} (h : fin double x) : fin double (opp64 x) ∧ fval double (opp64 x) = -fval double x := by
  have e : opp64 x = x ^^^ 2 ^ 63 := rfl
  have hw : double.signWeight = 2 ^ 63 := by decide
  have hi := infRung_lt double
  obtain ⟨hx1, hx2⟩ := h
  rw [hw] at hx1 hx2 hi
  have hcase : ∃ (y : Nat) (b : Bool), y < 2 ^ 63 ∧ x = (if b then 2 ^ 63 + y else y) ∧ opp64 x = (if b then y else 2 ^ 63 + y) := by
    by_cases h1 : x < 2 ^ 63
    · exact ⟨x, false, h1, rfl, by rw [e, xor_top h1]; rfl⟩
    · obtain ⟨y, rfl⟩ : ∃ y, x = 2 ^ 63 + y := ⟨x - 2 ^ 63, by omega⟩
      exact ⟨y, true, by omega, rfl, by rw [e, xor_top' (by omega)]; rfl⟩
  obtain ⟨y, b, hy, e1, e2⟩ := hcase
  have r1 : ∀ y, y < 2 ^ 63 → y < double.infRung → ∃ m e, double.read y = .number false m e ∧ double.read (2 ^ 63 + y) = .number true m e := by
    intro y hy hyi
    have k1 : y % double.signWeight = y := by rw [hw]; exact Nat.mod_eq_of_lt hy
    have k2 : (2 ^ 63 + y) % double.signWeight = y := by rw [hw, Nat.add_mod_left]; exact Nat.mod_eq_of_lt hy
    have k3 : y / double.signWeight = 0 := by rw [hw]; exact Nat.div_eq_of_lt hy
    have k4 : (2 ^ 63 + y) / double.signWeight = 1 := by rw [hw, Nat.add_div_left _ (by decide), Nat.div_eq_of_lt hy]
    unfold Format.read
    simp only [k1, k2, k3, k4]
    by_cases hr : y < double.binade
    · rw [if_pos hr, if_pos hr]; exact ⟨_, _, rfl, rfl⟩
    · rw [if_neg hr, if_neg hr, if_pos hyi, if_pos hyi]; exact ⟨_, _, rfl, rfl⟩
  have hyi : y < double.infRung := by
    cases b
    · rw [e1] at hx2; simp only [Bool.false_eq_true, if_false] at hx2; rwa [Nat.mod_eq_of_lt hy] at hx2
    · rw [e1] at hx2; simp only [if_true] at hx2; rwa [Nat.add_mod_left, Nat.mod_eq_of_lt hy] at hx2
  obtain ⟨m, ee, q1, q2⟩ := r1 y hy hyi
  have q3 := opp_val false m ee
  have f1 : fin double y := ⟨by rw [hw]; omega, by rw [hw, Nat.mod_eq_of_lt hy]; exact hyi⟩
  have f2 : fin double (2 ^ 63 + y) := ⟨by rw [hw]; omega, by rw [hw, Nat.add_mod_left, Nat.mod_eq_of_lt hy]; exact hyi⟩
  rw [e2, e1]
  unfold fval
  cases b
  · simp only [Bool.false_eq_true, if_false]; rw [q1, q2]; exact ⟨f2, q3⟩
  · simp only [if_true]; rw [q1, q2]; exact ⟨f1, by have : Datum.val (.number true m ee) = -Datum.val (.number false m ee) := q3
                                                    rw [this]; grind⟩

theorem sineRest_good {f : Nat} (hf : fin double f) (f0 : -eps ≤ fval double f) (f1 : fval double f ≤ 1 + eps) : ∃ r, sineRest f = some r ∧ fin double r ∧ (fval double r).abs ≤ 17 / 10 := by
  -- the half
  obtain ⟨g, hg, gf, g0, g1⟩ : ∃ g, (if geq .f64 f half64 then floatBits .sub .f64 f half64 else some f) = some g ∧ fin double g ∧ -eps ≤ fval double g ∧ fval double g ≤ 1 / 2 + 2 * eps := by
    rw [geq64 hf half_val.1, half_val.2]
    by_cases h : 1 / 2 ≤ fval double f
    · rw [decide_eq_true h]; simp only [if_true]
      have hs : (fval double f - fval double half64).abs ≤ 1 := by rw [half_val.2]; exact abs_le (by grind) (by grind)
      obtain ⟨r, hr, hR⟩ := sub64 hf half_val.1 (by grind)
      have hn := hR.near64.at hs (by grind)
      rw [half_val.2] at hn
      have hp := hR.pos (by rw [half_val.2]; grind)
      exact ⟨r, hr, hR.fin, by grind, by grind⟩
    · rw [decide_eq_false h]; simp only [Bool.false_eq_true, if_false]
      exact ⟨f, rfl, hf, f0, by grind⟩
  obtain ⟨k, hk, kf, k0, k1⟩ : ∃ k, (if gtr .f64 g quarter64 then floatBits .sub .f64 half64 g else some g) = some k ∧ fin double k ∧ -(4 * eps) ≤ fval double k ∧ fval double k ≤ 1 / 4 + eps := by
    rw [gtr64 gf quarter_val.1, quarter_val.2]
    by_cases h : 1 / 4 < fval double g
    · rw [decide_eq_true h]; simp only [if_true]
      have hs : (fval double half64 - fval double g).abs ≤ 1 := by rw [half_val.2]; exact abs_le (by grind) (by grind)
      obtain ⟨r, hr, hR⟩ := sub64 half_val.1 gf (by grind)
      have hn := hR.near64.at hs (by grind)
      rw [half_val.2] at hn
      exact ⟨r, hr, hR.fin, by grind, by grind⟩
    · rw [decide_eq_false h]; simp only [Bool.false_eq_true, if_false]
      exact ⟨g, rfl, gf, by grind, by grind⟩
  have kb : (fval double k).abs ≤ 251 / 1000 := abs_le (by grind) (by grind)
  have hz : (fval double k * fval double turn64).abs ≤ 159 / 100 := by
    have := abs_mul_le kb (abs_le (show fval double turn64 ≤ 6284 / 1000 by rw [turn_val.2]; decide +kernel) (by rw [turn_val.2]; decide +kernel))
    grind
  obtain ⟨z, hz1, hZ⟩ := mul64 kf turn_val.1 (by grind)
  have hzn := hZ.near64.at hz (by grind)
  have hzb := abs_bounds hz
  have za : (fval double z).abs ≤ 16 / 10 := abs_le (by grind) (by grind)
  have hu : (fval double z * fval double z).abs ≤ 256 / 100 := by have := abs_mul_le za za; grind
  have hsq : 0 ≤ fval double z * fval double z := by
    rcases Rat.le_total (a := 0) (b := fval double z) with h | h
    · exact Rat.mul_nonneg h h
    · have := Rat.mul_nonneg (show 0 ≤ -fval double z by grind) (show 0 ≤ -fval double z by grind); grind
  obtain ⟨u, hu1, hU⟩ := mul64 hZ.fin hZ.fin (by grind)
  have hun := hU.near64.at hu (by grind)
  have hub := abs_bounds hu
  have hu0 := hU.pos hsq
  obtain ⟨p, hp, pf, p0, p1⟩ := pol_good hU.fin hu0 (by grind) 8 (by omega)
  have hr : (fval double z * fval double p).abs ≤ 1616 / 1000 := by have := abs_mul_le za (abs_le p1 (by grind)); grind
  obtain ⟨r, hr1, hR⟩ := mul64 hZ.fin pf (by grind)
  have hrn := hR.near64.at hr (by grind)
  have hrb := abs_bounds hr
  have ra : (fval double r).abs ≤ 17 / 10 := abs_le (by grind) (by grind)
  unfold sineRest
  rw [hg, Option.bind_some, hk, Option.bind_some, hz1, Option.bind_some, hu1, Option.bind_some, hp, Option.bind_some, hr1, Option.bind_some]
  cases geq .f64 f half64
  · exact ⟨r, rfl, hR.fin, ra⟩
  · obtain ⟨o1, o2⟩ := opp_good hR.fin
    exact ⟨opp64 r, rfl, o1, by rw [o2, Rat.abs_neg]; exact ra⟩

theorem tame_of {t : Nat} (h : fin double t) (hb : (fval double t).abs ≤ 1000) : Tame t := by
  refine ⟨h, ?_⟩
  have : (1000 : Rat) < P2 52 := by
    have : P2 52 = ((2 ^ 52 : Nat) : Rat) := P2_nat 52
    rw [this]; decide +kernel
  grind

theorem sine_good {t : Nat} (h : fin double t) (hb : (fval double t).abs ≤ 1000) : ∃ r, sineOf t = some r ∧ fin double r ∧ (fval double r).abs ≤ 17 / 10 := by
  obtain ⟨f, hf, ff, f0, f1⟩ := part_good (tame_of h hb)
  unfold sineOf
  rw [hf, Option.bind_some]
  exact sineRest_good ff f0 f1

theorem quarters_good : ∀ (n : Nat) (f q : Nat), fin double f → -eps ≤ fval double f → fval double f ≤ (n : Rat) * (1 / 4) - 2 / 10 + (5 - (n : Rat)) * eps → n ≤ 5 →
    ∃ g k, quarters (n + 1) f q = some (g, k) ∧ fin double g ∧ -eps ≤ fval double g ∧ fval double g < 1 / 4
  | 0, f, q, hf, f0, f1, _ => by
    unfold quarters
    rw [geq64 hf quarter_val.1, quarter_val.2, decide_eq_false (by simp at f1; grind)]
    simp only [Bool.false_eq_true, if_false]
    exact ⟨f, q, rfl, hf, f0, by simp at f1; grind⟩
  | n + 1, f, q, hf, f0, f1, hn => by
    unfold quarters
    rw [geq64 hf quarter_val.1, quarter_val.2]
    have hnr : (n : Rat) ≤ 4 := by exact_mod_cast (show n ≤ 4 by omega)
    have hcast : ((n + 1 : Nat) : Rat) = (n : Rat) + 1 := by rw [Rat.natCast_add]; rfl
    rw [hcast] at f1
    by_cases h : 1 / 4 ≤ fval double f
    · rw [decide_eq_true h]
      simp only [if_true]
      have hs : (fval double f - fval double quarter64).abs ≤ 2 := by rw [quarter_val.2]; exact abs_le (by grind) (by grind)
      obtain ⟨g, hg, hG⟩ := sub64 hf quarter_val.1 (by grind)
      have hgn := hG.near64.at hs (by grind)
      have hg0 := hG.pos (by rw [quarter_val.2]; grind)
      rw [quarter_val.2] at hgn
      rw [hg, Option.bind_some]
      exact quarters_good n g (q + 1) hG.fin (by grind) (by grind) (by omega)
    · rw [decide_eq_false h]
      simp only [Bool.false_eq_true, if_false]
      exact ⟨f, q, rfl, hf, f0, by grind⟩

/-- All that the phasor's way needs to know. -/
theorem phasor_steps {t : Nat} (h : Tame t) : ∃ f0 f q d c s x y, partOf t = some f0 ∧ quarters 6 f0 0 = some (f, q) ∧ Tame f ∧ floatBits .sub .f64 quarter64 f = some d ∧ Tame d ∧
    sineOf d = some c ∧ sineOf f = some s ∧ turned q c s = some (x, y) ∧ fin double x ∧ fin double y ∧ (fval double x).abs ≤ 18 / 10 ∧ (fval double y).abs ≤ 18 / 10 := by
  obtain ⟨f0, hf0, f0f, f00, f01⟩ := part_good h
  obtain ⟨f, q, hq, ff, f1, f2⟩ := quarters_good 5 f0 0 f0f f00 (by have : ((5 : Nat) : Rat) = 5 := rfl
                                                                    rw [this]; grind) (Nat.le_refl _)
  have hs : (fval double quarter64 - fval double f).abs ≤ 1 := by rw [quarter_val.2]; exact abs_le (by grind) (by grind)
  obtain ⟨d, hd, hD⟩ := sub64 quarter_val.1 ff (by grind)
  have hdn := hD.near64.at hs (by grind)
  rw [quarter_val.2] at hdn
  obtain ⟨c, hc, cf, cb⟩ := sine_good hD.fin (abs_le (by grind) (by grind))
  obtain ⟨s, hs1, sf, sb⟩ := sine_good ff (abs_le (by grind) (by grind))
  have minus : ∀ {z : Nat}, fin double z → (fval double z).abs ≤ 17 / 10 → ∃ r, floatBits .sub .f64 0 z = some r ∧ fin double r ∧ (fval double r).abs ≤ 18 / 10 := by
    intro z hz hzb
    have := abs_bounds hzb
    have hb : (fval double 0 - fval double z).abs ≤ 17 / 10 := by rw [fin_zero.2]; exact abs_le (by grind) (by grind)
    obtain ⟨r, hr, hR⟩ := sub64 fin_zero.1 hz (by grind)
    have hn := hR.near64.at hb (by grind)
    have := abs_bounds hb
    exact ⟨r, hr, hR.fin, abs_le (by grind) (by grind)⟩
  have tf : Tame f := tame_of ff (abs_le (by grind) (by grind))
  have td : Tame d := tame_of hD.fin (abs_le (by grind) (by grind))
  obtain ⟨mc, hmc, mcf, mcb⟩ := minus cf cb
  obtain ⟨ms, hms, msf, msb⟩ := minus sf sb
  have cb' : (fval double c).abs ≤ 18 / 10 := by grind
  have sb' : (fval double s).abs ≤ 18 / 10 := by grind
  by_cases q1 : q = 1
  · exact ⟨f0, f, q, d, c, s, ms, c, hf0, hq, tf, hd, td, hc, hs1, by unfold turned; rw [if_pos q1, hms]; rfl, msf, cf, msb, cb'⟩
  · by_cases q2 : q = 2
    · exact ⟨f0, f, q, d, c, s, mc, ms, hf0, hq, tf, hd, td, hc, hs1, by unfold turned; rw [if_neg q1, if_pos q2, hmc, Option.bind_some, hms]; rfl, mcf, msf, mcb, msb⟩
    · by_cases q3 : q = 3
      · exact ⟨f0, f, q, d, c, s, s, mc, hf0, hq, tf, hd, td, hc, hs1, by unfold turned; rw [if_neg q1, if_neg q2, if_pos q3, hmc]; rfl, sf, mcf, sb', mcb⟩
      · exact ⟨f0, f, q, d, c, s, c, s, hf0, hq, tf, hd, td, hc, hs1, by unfold turned; rw [if_neg q1, if_neg q2, if_neg q3], cf, sf, cb', sb'⟩

theorem narrow_good {x : Nat} (h : fin double x) (hb : (fval double x).abs ≤ 1000) : ∃ r, floatToFloatBits .f64 x .f32 = some r ∧ Rnd single (fval double x) r := by
  refine narrow h ?_
  have : (1000 : Rat) < P2 127 := by
    have : P2 127 = ((2 ^ 127 : Nat) : Rat) := P2_nat 127
    rw [this]; decide +kernel
  grind

theorem phasor_good {t : Nat} (h : Tame t) : ∃ a b, phasor t = some (a, b) ∧ fin single a ∧ fin single b ∧ (fval single a).abs ≤ 2 ∧ (fval single b).abs ≤ 2 := by
  obtain ⟨f0, f, q, d, c, s, x, y, h1, h2, _, h3, _, h4, h5, h6, xf, yf, xb, yb⟩ := phasor_steps h
  obtain ⟨a, ha, hA⟩ := narrow_good xf (by grind)
  obtain ⟨b, hb, hB⟩ := narrow_good yf (by grind)
  have an := hA.near32.at xb (by grind)
  have bn := hB.near32.at yb (by grind)
  have := abs_bounds xb
  have := abs_bounds yb
  refine ⟨a, b, ?_, hA.fin, hB.fin, abs_le (by grind) (by grind), abs_le (by grind) (by grind)⟩
  unfold phasor narrowTwo
  rw [h1, Option.bind_some, h2, Option.bind_some, h3, Option.bind_some, h4, Option.bind_some, h5, Option.bind_some, h6, Option.bind_some, ha, Option.bind_some, hb, Option.bind_some]

/-! ### The same by whole numbers, as the reference has it -/
theorem big52m : fin double 14064741636278059008 ∧ fval double 14064741636278059008 = -P2 52 := by
  refine ⟨by unfold fin; decide +kernel, ?_⟩
  unfold fval
  rw [show double.read 14064741636278059008 = .number true 4503599627370496 0 by decide +kernel]
  unfold Datum.val
  decide +kernel

theorem Tame.low {t : Nat} (h : Tame t) : geq .f64 t 4841369599423283200 = false := by
  rw [geq64 h.1 big52.1, big52.2, decide_eq_false]
  have := le_abs (fval double t)
  have := h.2
  grind
theorem Tame.high {t : Nat} (h : Tame t) : (double.order t 14064741636278059008 == some .lt || double.order t 14064741636278059008 == some .eq) = false := by
  have ho := order_val double h.1 big52m.1
  have := le_abs (fval double t)
  have := h.2
  rw [big52m.2, if_neg (by grind), if_neg (by grind)] at ho
  rw [ho]; rfl
theorem Tame.self {t : Nat} (h : Tame t) : ∃ z, floatBits .sub .f64 t t = some z ∧ eql .f64 z 0 = true := by
  obtain ⟨z, hz, hR⟩ := sub64 h.1 h.1 (by rw [Rat.sub_self]; decide +kernel)
  have hz0 : fval double z = 0 := by
    have := hR.pos (by rw [Rat.sub_self]; exact Rat.le_refl)
    have := hR.neg (by rw [Rat.sub_self]; exact Rat.le_refl)
    grind
  exact ⟨z, hz, by rw [eql64 hR.fin fin_zero.1, hz0, fin_zero.2]; rfl⟩

/-- 'float64(int64(t))' is the whole part without a sign at zero. -/
theorem Tame.whole {t : Nat} (h : Tame t) : ∃ n : Int, floatToIntVal .f64 t .i64 = some n ∧ FloatKind.f64.nearest n = wholeOf t := by
  obtain ⟨hw, _, s, c, hc, hi, hc52, hcv⟩ := cutOff_val h
  have hsg : signed s c 0 = if s then -(c : Int) else (c : Int) := by unfold signed; rw [Nat.shiftLeft_zero]
  refine ⟨signed s c 0, ?_, ?_⟩
  · unfold floatToIntVal
    rw [hi]
    simp only []
    rw [if_pos]
    rw [hsg]
    have h1 : IntKind.i64.min = -9223372036854775808 := rfl
    have h2 : IntKind.i64.max = 9223372036854775807 := rfl
    rw [h1, h2]
    split <;> omega
  · unfold wholeOf
    rw [eql64 hw fin_zero.1, fin_zero.2, hcv, hc]
    have hne : FloatKind.f64.nearest (signed s c 0) = double.nearest (decide (signed s c 0 < 0)) (signed s c 0).natAbs 0 := rfl
    rw [hne]
    by_cases hc0 : c = 0
    · subst hc0
      have : signed s 0 0 = 0 := by rw [hsg]; split <;> rfl
      rw [this, decide_eq_true (show (if s then (-1 : Rat) else 1) * ((0 : Nat) : Rat) = 0 by rw [show ((0 : Nat) : Rat) = 0 from rfl, Rat.mul_zero])]
      rw [if_pos rfl]
      decide
    · have hcr : (c : Rat) ≠ 0 := by exact_mod_cast hc0
      have : ¬ ((if s then (-1 : Rat) else 1) * (c : Rat) = 0) := by
        cases s <;> simp only [Bool.false_eq_true, if_false, if_true] <;> grind
      rw [decide_eq_false this]
      simp only [Bool.false_eq_true, if_false]
      rw [hsg]
      cases s
      · simp only [Bool.false_eq_true, if_false]
        rw [decide_eq_false (by omega), Int.natAbs_natCast]
      · simp only [if_true]
        rw [decide_eq_true (by omega), Int.natAbs_neg, Int.natAbs_natCast]
end Go.Flt
