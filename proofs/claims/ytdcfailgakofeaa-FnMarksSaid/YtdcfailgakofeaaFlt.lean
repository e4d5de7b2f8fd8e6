/-
  What the operations on floating words give, as rational numbers: each result is finite, and near the exact one, where the exact one is not too great.
-/
import GoSem.Core.Float
import Ieee.Arith
namespace Go.Flt
open Ieee

/-! ### Powers of two -/
def P2 (e : Int) : Rat := (2 : Rat) ^ e
theorem P2_pos (e : Int) : 0 < P2 e := Rat.zpow_pos (by decide)
theorem P2_nn (e : Int) : 0 ≤ P2 e := Rat.le_of_lt (P2_pos e)
theorem P2_add (a b : Int) : P2 (a + b) = P2 a * P2 b := Rat.zpow_add (by decide) a b
theorem P2_nat (n : Nat) : P2 (n : Int) = ((2 ^ n : Nat) : Rat) := by rw [P2, Rat.zpow_natCast, Rat.natCast_pow]; rfl
theorem P2_zero : P2 0 = 1 := rfl
theorem P2_mono {a b : Int} (h : a ≤ b) : P2 a ≤ P2 b := by
  obtain ⟨n, rfl⟩ : ∃ n : Nat, b = a + n := ⟨(b - a).toNat, by omega⟩
  rw [P2_add, P2_nat]
  have h1 : (1 : Rat) ≤ ((2 ^ n : Nat) : Rat) := by exact_mod_cast Nat.one_le_two_pow
  have := Rat.mul_le_mul_of_nonneg_left h1 (P2_nn a)
  grind
theorem P2_lt {a b : Int} (h : P2 a < P2 b) : a < b := by
  rcases Int.lt_or_le a b with h1 | h1
  · exact h1
  · have := P2_mono h1; grind
theorem P2_sub (a : Int) (n : Nat) : P2 (a - n) * ((2 ^ n : Nat) : Rat) = P2 a := by
  rw [← P2_nat, ← P2_add]; congr 1; omega
theorem P2_half (a : Int) : 2 * P2 (a - 1) = P2 a := by
  have := P2_sub a 1
  have e : ((2 ^ 1 : Nat) : Rat) = 2 := rfl
  rw [e] at this
  rw [← this, Rat.mul_comm]; rfl
theorem shift_val (m k : Nat) (e : Int) : ((m <<< k : Nat) : Rat) * P2 e = (m : Rat) * P2 (e + k) := by
  rw [Nat.shiftLeft_eq, P2_add, P2_nat, Rat.natCast_mul, Rat.mul_assoc, Rat.mul_comm (P2 e)]

/-! ### Cutting to a whole number -/
theorem cut_even (neg : Bool) (N d : Nat) :
    2 * (Toward.even.cut neg N d * 2 ^ d) ≤ 2 * N + 2 ^ d ∧ 2 * N ≤ 2 * (Toward.even.cut neg N d * 2 ^ d) + 2 ^ d := by
  have hlog : N < 2 ^ (N.log2 + 1) := Nat.lt_log2_self
  unfold Toward.cut
  by_cases h : d ≤ N.log2 + 2
  · rw [Nat.min_eq_left h]
    simp only [Nat.shiftLeft_eq, Nat.one_mul]
    have hp : 0 < 2 ^ d := Nat.two_pow_pos d
    have e1 := Nat.div_add_mod N (2 ^ d)
    have e2 := Nat.mod_lt N hp
    generalize hL : N / 2 ^ d = low at *
    generalize hR : N % 2 ^ d = rest at *
    generalize 2 ^ d = g at *
    have e3 : low * g = g * low := Nat.mul_comm _ _
    by_cases hm : (decide (g < 2 * rest) || g == 2 * rest && low % 2 == 1) = true
    · rw [hm]
      simp only [Bool.toNat_true, Nat.add_mul, Nat.one_mul, e3]
      have : g ≤ 2 * rest := by
        simp only [Bool.or_eq_true, decide_eq_true_eq, Bool.and_eq_true, beq_iff_eq] at hm
        omega
      omega
    · rw [Bool.eq_false_iff.2 hm]
      simp only [Bool.toNat_false, Nat.add_zero, e3]
      have : 2 * rest ≤ g := by
        simp only [Bool.or_eq_true, decide_eq_true_eq, Bool.and_eq_true, beq_iff_eq] at hm
        omega
      omega
  · have hd : N.log2 + 2 ≤ d := by omega
    rw [Nat.min_eq_right hd]
    simp only [Nat.shiftLeft_eq, Nat.one_mul]
    have hp : 2 ^ (N.log2 + 2) = 2 * 2 ^ (N.log2 + 1) := by rw [Nat.pow_succ]; omega
    have hlt : N < 2 ^ (N.log2 + 2) := by omega
    rw [Nat.div_eq_of_lt hlt, Nat.mod_eq_of_lt hlt]
    have hm : (decide (2 ^ (N.log2 + 2) < 2 * N) || 2 ^ (N.log2 + 2) == 2 * N && 0 % 2 == 1) = false := by
      simp only [Nat.zero_mod, Bool.or_eq_false_iff, decide_eq_false_iff_not, Bool.and_eq_false_iff]
      exact ⟨by omega, Or.inr rfl⟩
    rw [hm]
    have : 2 ^ (N.log2 + 2) ≤ 2 ^ d := Nat.pow_le_pow_right (by decide) hd
    simp only [Bool.toNat_false, Nat.add_zero, Nat.zero_mul, Nat.mul_zero, Nat.zero_add]
    omega

theorem cut_exact (neg : Bool) (c d : Nat) : Toward.even.cut neg (c * 2 ^ d) d = c := by
  have h := cut_even neg (c * 2 ^ d) d
  by_cases hc : c = 0
  · subst hc
    simp [Toward.cut]
  · have hd : d ≤ (c * 2 ^ d).log2 + 2 := by
      have : 2 ^ d ≤ c * 2 ^ d := Nat.le_mul_of_pos_left _ (by omega)
      have hpos : c * 2 ^ d ≠ 0 := Nat.ne_of_gt (Nat.mul_pos (by omega) (Nat.two_pow_pos d))
      have h2 : d ≤ (c * 2 ^ d).log2 := (Nat.le_log2 hpos).2 this
      omega
    unfold Toward.cut
    rw [Nat.min_eq_left hd]
    simp only [Nat.shiftLeft_eq, Nat.one_mul]
    have hp : 0 < 2 ^ d := Nat.two_pow_pos d
    rw [Nat.mul_div_cancel _ hp, Nat.mul_mod_left]
    simp

/-! ### What a word stands for -/
def _root_.Ieee.Datum.val : Datum → Rat
  | .number neg m e => if neg then -((m : Rat) * P2 e) else (m : Rat) * P2 e
  | _ => 0
/-- A finite word of the format. -/
def fin (f : Format) (x : Nat) : Prop := x < 2 * f.signWeight ∧ x % f.signWeight < f.infRung
def fval (f : Format) (x : Nat) : Rat := (f.read x).val

theorem infRung_lt (f : Format) : f.infRung < f.signWeight := by
  unfold Format.infRung Format.signWeight Format.binade
  rw [Nat.pow_add]
  have h1 : 0 < 2 ^ f.exponentBits := Nat.two_pow_pos _
  exact Nat.mul_lt_mul_of_pos_right (by omega) (Nat.two_pow_pos _)

theorem fin_read {f : Format} {x : Nat} (h : fin f x) : ∃ neg m e, f.read x = .number neg m e ∧ f.leastPlace ≤ e := by
  unfold Format.read
  simp only []
  split
  · exact ⟨_, _, _, rfl, Int.le_refl _⟩
  · rw [if_pos h.2]
    exact ⟨_, _, _, rfl, by omega⟩

/-- The word of a rung 'D binades and kept' stands for 'kept * 2 ^ (least + D)'. -/
theorem read_word (f : Format) (neg : Bool) (D kept : Nat) (h1 : D ≠ 0 → f.binade ≤ kept) (h2 : kept ≤ 2 * f.binade) (hlt : D * f.binade + kept < f.infRung) :
    ∃ m e, f.read (f.word neg (D * f.binade + kept)) = .number neg m e ∧ (m : Rat) * P2 e = (kept : Rat) * P2 (f.leastPlace + D) := by
  have hb : 0 < f.binade := Nat.two_pow_pos _
  have hs := infRung_lt f
  have hmod : f.word neg (D * f.binade + kept) % f.signWeight = D * f.binade + kept := by
    unfold Format.word
    split
    · rw [Nat.add_mod_left, Nat.mod_eq_of_lt (by omega)]
    · exact Nat.mod_eq_of_lt (by omega)
  have hneg : (f.word neg (D * f.binade + kept) / f.signWeight % 2 == 1) = neg := by
    unfold Format.word
    have hsp : 0 < f.signWeight := by omega
    cases neg
    · simp only [Bool.false_eq_true, if_false]
      rw [Nat.div_eq_of_lt (by omega)]; rfl
    · simp only [if_true]
      rw [Nat.add_div_left _ hsp, Nat.div_eq_of_lt (by omega)]; rfl
  unfold Format.read
  simp only [hmod, hneg]
  by_cases hr : D * f.binade + kept < f.binade
  · rw [if_pos hr]
    have hD : D = 0 := by
      rcases Nat.eq_zero_or_pos D with h | h
      · exact h
      · have : f.binade ≤ D * f.binade := Nat.le_mul_of_pos_left _ h
        omega
    subst hD
    exact ⟨_, _, rfl, by simp⟩
  · rw [if_neg hr, if_pos hlt]
    refine ⟨_, _, rfl, ?_⟩
    generalize hbb : f.binade = b at *
    -- kept = b + r with r < b, or kept = 2 b
    by_cases hk : kept < 2 * b
    · have hkb : b ≤ kept := by
        by_cases hD : D = 0
        · subst hD; omega
        · exact h1 hD
      obtain ⟨r, rfl⟩ : ∃ r, kept = b + r := ⟨kept - b, by omega⟩
      have e1 : D * b + (b + r) = r + b * (D + 1) := by rw [Nat.mul_add, Nat.mul_comm b D]; omega
      rw [e1, Nat.add_mul_mod_self_left, Nat.add_mul_div_left _ _ hb, Nat.mod_eq_of_lt (by omega), Nat.div_eq_of_lt (by omega)]
      congr 2
      omega
    · obtain rfl : kept = 2 * b := by omega
      have e1 : D * b + 2 * b = 0 + b * (D + 2) := by rw [Nat.mul_add, Nat.mul_comm b D]; omega
      rw [e1, Nat.add_mul_mod_self_left, Nat.add_mul_div_left _ _ hb, Nat.zero_mod, Nat.zero_div]
      have e2 : (f.leastPlace + ((0 + (D + 2) - 1 : Nat) : Int)) = f.leastPlace + (D : Int) + 1 := by omega
      rw [e2, P2_add, Rat.natCast_mul]
      have e3 : P2 1 = 2 := rfl
      rw [e3]
      simp only [Nat.add_zero]
      grind

/-- What rounding does to 'v = mag * 2 ^ place': the word is finite, its magnitude is q; q is near v. -/
structure Near (f : Format) (neg : Bool) (v : Rat) (r : Nat) : Prop where
  fin : fin f r
  val : ∃ q : Rat, fval f r = (if neg then -q else q) ∧ 0 ≤ q ∧ 2 * q ≤ 2 * v + (v * P2 (-f.fractionBits) + P2 f.leastPlace) ∧ 2 * v ≤ 2 * q + (v * P2 (-f.fractionBits) + P2 f.leastPlace) ∧
    ∀ (c : Nat) (e : Int), v = (c : Rat) * P2 e → c < 2 ^ (f.fractionBits + 1) → f.leastPlace ≤ e → q = v

theorem two_b (f : Format) : 2 * f.binade = 2 ^ (f.fractionBits + 1) := by unfold Format.binade; rw [Nat.pow_succ]; omega

theorem fin_word (f : Format) (neg : Bool) (R : Nat) (h : R < f.infRung) : fin f (f.word neg R) := by
  have hs := infRung_lt f
  unfold Format.word
  refine ⟨?_, ?_⟩
  · split <;> omega
  · split
    · rw [Nat.add_mod_left, Nat.mod_eq_of_lt (by omega)]; exact h
    · rw [Nat.mod_eq_of_lt (by omega)]; exact h

/-- The bounds on what is kept. -/
theorem kept_bounds (mag F g d : Nat) (hm : mag ≠ 0) (neg : Bool) (hle : mag.log2 + g ≤ F + d) :
    Toward.even.cut neg (mag <<< g) d ≤ 2 ^ (F + 1) ∧ (mag.log2 + g = F + d → 2 ^ F ≤ Toward.even.cut neg (mag <<< g) d) := by
  obtain ⟨h1, h2⟩ := cut_even neg (mag <<< g) d
  generalize Toward.even.cut neg (mag <<< g) d = kept at *
  have hp : 0 < 2 ^ d := Nat.two_pow_pos d
  rw [Nat.shiftLeft_eq] at h1 h2
  constructor
  · have hN : mag * 2 ^ g < 2 ^ (F + 1) * 2 ^ d := by
      have e1 : mag * 2 ^ g < 2 ^ (mag.log2 + 1) * 2 ^ g := Nat.mul_lt_mul_of_pos_right Nat.lt_log2_self (Nat.two_pow_pos g)
      have e2 : 2 ^ (mag.log2 + 1) * 2 ^ g ≤ 2 ^ (F + 1) * 2 ^ d := by
        rw [← Nat.pow_add, ← Nat.pow_add]
        exact Nat.pow_le_pow_right (by decide) (by omega)
      omega
    have : kept * 2 ^ d < (2 ^ (F + 1) + 1) * 2 ^ d := by rw [Nat.add_mul, Nat.one_mul]; omega
    have := Nat.lt_of_mul_lt_mul_right this
    omega
  · intro he
    have hN : 2 ^ F * 2 ^ d ≤ mag * 2 ^ g := by
      have e1 : 2 ^ mag.log2 * 2 ^ g ≤ mag * 2 ^ g := Nat.mul_le_mul_right _ (Nat.log2_self_le hm)
      have e2 : 2 ^ mag.log2 * 2 ^ g = 2 ^ F * 2 ^ d := by rw [← Nat.pow_add, ← Nat.pow_add, he]
      omega
    have : 2 ^ F * 2 ^ d < (kept + 1) * 2 ^ d := by rw [Nat.add_mul, Nat.one_mul]; omega
    have := Nat.lt_of_mul_lt_mul_right this
    omega

/-- The top: words of a magnitude below '2 ^ top' are finite. -/
def top (f : Format) : Int := 2 ^ (f.exponentBits - 1) - 1

theorem nearest_near (f : Format) (hE : 2 ≤ f.exponentBits) (neg : Bool) (mag : Nat) (place : Int) (h : (mag : Rat) * P2 place < P2 (top f)) :
    Near f neg ((mag : Rat) * P2 place) (f.nearest neg mag place) := by
  have hb : 0 < f.binade := Nat.two_pow_pos _
  obtain ⟨T, hT⟩ : ∃ T : Nat, 2 ^ (f.exponentBits - 1) = T + 1 := ⟨2 ^ (f.exponentBits - 1) - 1, by have := Nat.two_pow_pos (f.exponentBits - 1); omega⟩
  have hT1 : 1 ≤ T := by
    have : 2 ^ 1 ≤ 2 ^ (f.exponentBits - 1) := Nat.pow_le_pow_right (by decide) (by omega)
    omega
  have hinf : f.infRung = (2 * T + 1) * f.binade := by
    unfold Format.infRung
    congr 1
    have : 2 ^ f.exponentBits = 2 * 2 ^ (f.exponentBits - 1) := by
      rw [← Nat.pow_succ']; congr 1; omega
    omega
  have hTi : ((2 : Int) ^ (f.exponentBits - 1)) = (T : Int) + 1 := by
    have := congrArg (Nat.cast : Nat → Int) hT
    simpa using this
  have htop : top f = T := by unfold top; rw [hTi]; omega
  have hleast : f.leastPlace = 1 - (T : Int) - f.fractionBits := by unfold Format.leastPlace; rw [hTi]; omega
  by_cases hm : mag = 0
  · subst hm
    unfold Format.nearest
    rw [if_pos rfl]
    have hz : (0 : Nat) < f.infRung := by rw [hinf]; exact Nat.mul_pos (by omega) hb
    obtain ⟨m, e, hr, hv⟩ := read_word f neg 0 0 (fun h => absurd rfl h) (Nat.zero_le _) (by rw [Nat.zero_mul]; exact hz)
    simp only [Nat.zero_mul, Nat.add_zero] at hr
    refine ⟨fin_word f neg 0 hz, 0, ?_, Rat.le_refl, ?_, ?_⟩
    · unfold fval Datum.val
      rw [hr]
      simp only [hv]
      simp
    · have := P2_nn f.leastPlace; simp; grind
    · refine ⟨?_, fun _ _ _ _ _ => by simp⟩
      have := P2_nn f.leastPlace; simp; grind
  · unfold Format.nearest
    rw [if_neg hm]
    simp only []
    generalize hlast : max (place + (mag.log2 : Int) - (f.fractionBits : Int)) f.leastPlace = last
    generalize hg : (place - last).toNat = g
    generalize hd : (last - place).toNat = d
    have hle : mag.log2 + g ≤ f.fractionBits + d := by omega
    obtain ⟨hk1, hk2⟩ := kept_bounds mag f.fractionBits g d hm neg hle
    obtain ⟨hc1, hc2⟩ := cut_even neg (mag <<< g) d
    have hcx := cut_exact neg
    have hvN : (mag : Rat) * P2 place = ((mag <<< g : Nat) : Rat) * P2 (last - d) := by
      rw [shift_val]; congr 2; omega
    have hlog : P2 (place + mag.log2) ≤ (mag : Rat) * P2 place := by
      rw [P2_add, P2_nat, Rat.mul_comm]
      exact Rat.mul_le_mul_of_nonneg_right (by exact_mod_cast Nat.log2_self_le hm) (P2_nn _)
    have hpl : place + mag.log2 < T := by
      rw [← htop]; exact P2_lt (by grind)
    have hD : ((last - f.leastPlace).toNat : Int) = last - f.leastPlace := by omega
    generalize hDD : (last - f.leastPlace).toNat = D at *
    have hex : ∀ (c : Nat) (e : Int), (mag : Rat) * P2 place = (c : Rat) * P2 e → c < 2 ^ (f.fractionBits + 1) → f.leastPlace ≤ e → (Toward.even.cut neg (mag <<< g) d : Rat) * P2 last = (mag : Rat) * P2 place := by
      intro c e hce hc he
      have hc0 : c ≠ 0 := by
        rintro rfl
        have h1 : (0 : Rat) < P2 (place + mag.log2) := P2_pos _
        rw [hce] at hlog
        have : ((0 : Nat) : Rat) * P2 e = 0 := by simp
        grind
      have hlast_le : last ≤ e := by
        have h1 : P2 (place + mag.log2) < P2 (e + (f.fractionBits + 1 : Nat)) := by
          have h2 : (c : Rat) * P2 e < ((2 ^ (f.fractionBits + 1) : Nat) : Rat) * P2 e := Rat.mul_lt_mul_of_pos_right (by exact_mod_cast hc) (P2_pos e)
          have h3 : P2 (e + (f.fractionBits + 1 : Nat)) = ((2 ^ (f.fractionBits + 1) : Nat) : Rat) * P2 e := by rw [P2_add e, P2_nat, Rat.mul_comm]
          rw [h3]
          rw [hce] at hlog
          exact Std.lt_of_le_of_lt hlog h2
        have := P2_lt h1
        omega
      have hN : mag <<< g = c * 2 ^ (e - last).toNat * 2 ^ d := by
        have h1 : ((mag <<< g : Nat) : Rat) * P2 (last - d) = ((c * 2 ^ (e - last).toNat * 2 ^ d : Nat) : Rat) * P2 (last - d) := by
          rw [← hvN, hce, Rat.natCast_mul, Rat.natCast_mul, ← P2_nat, ← P2_nat, Rat.mul_assoc, Rat.mul_assoc, ← P2_add, ← P2_add]
          congr 2
          omega
        have h2 : ((mag <<< g : Nat) : Rat) = ((c * 2 ^ (e - last).toNat * 2 ^ d : Nat) : Rat) := by
          have hp := P2_pos (last - d)
          have h3 := Rat.le_of_mul_le_mul_right (a := ((mag <<< g : Nat) : Rat)) (b := ((c * 2 ^ (e - last).toNat * 2 ^ d : Nat) : Rat)) (by grind) hp
          have h4 := Rat.le_of_mul_le_mul_right (a := ((c * 2 ^ (e - last).toNat * 2 ^ d : Nat) : Rat)) (b := ((mag <<< g : Nat) : Rat)) (by grind) hp
          grind
        exact_mod_cast h2
      rw [hN, hcx, hce, Rat.natCast_mul, ← P2_nat, Rat.mul_assoc, ← P2_add]
      congr 2
      omega
    generalize Toward.even.cut neg (mag <<< g) d = kept at *
    have hDT : D ≤ 2 * T - 2 := by omega
    have hk1' : kept ≤ 2 * f.binade := by rw [two_b]; exact hk1
    have hlt : D * f.binade + kept < f.infRung := by
      rw [hinf, Nat.add_mul, Nat.one_mul]
      have : D * f.binade ≤ (2 * T - 2) * f.binade := Nat.mul_le_mul_right _ hDT
      have e : 2 * T * f.binade = (2 * T - 2) * f.binade + 2 * f.binade := by rw [← Nat.add_mul]; congr 1; omega
      omega
    obtain ⟨m, e, hr, hv⟩ := read_word f neg D kept (fun h0 => hk2 (by omega)) hk1' hlt
    rw [Nat.min_eq_left (Nat.le_of_lt hlt)]
    have hq : (m : Rat) * P2 e = (kept : Rat) * P2 last := by rw [hv]; congr 2; omega
    have hk2d : (kept : Rat) * P2 last = ((kept * 2 ^ d : Nat) : Rat) * P2 (last - d) := by
      rw [← P2_sub last d, Rat.natCast_mul]; grind
    have hlastb : P2 last ≤ (mag : Rat) * P2 place * P2 (-f.fractionBits) + P2 f.leastPlace := by
      by_cases hl : last = f.leastPlace
      · rw [hl]
        have h0 : 0 ≤ (mag : Rat) * P2 place * P2 (-f.fractionBits) := Rat.mul_nonneg (Rat.mul_nonneg (by exact_mod_cast Nat.zero_le _) (P2_nn _)) (P2_nn _)
        grind
      · have e1 : last = place + mag.log2 + (-f.fractionBits) := by omega
        rw [e1, P2_add]
        have := Rat.mul_le_mul_of_nonneg_right hlog (P2_nn (-f.fractionBits))
        have := P2_nn f.leastPlace
        grind
    have hd2 : ((2 ^ d : Nat) : Rat) * P2 (last - d) = P2 last := by rw [Rat.mul_comm]; exact P2_sub last d
    have hc1' : 2 * (((kept * 2 ^ d : Nat) : Rat)) ≤ 2 * ((mag <<< g : Nat) : Rat) + ((2 ^ d : Nat) : Rat) := by exact_mod_cast hc1
    have hc2' : 2 * ((mag <<< g : Nat) : Rat) ≤ 2 * (((kept * 2 ^ d : Nat) : Rat)) + ((2 ^ d : Nat) : Rat) := by exact_mod_cast hc2
    have hm1 := Rat.mul_le_mul_of_nonneg_right hc1' (P2_nn (last - d))
    have hm2 := Rat.mul_le_mul_of_nonneg_right hc2' (P2_nn (last - d))
    refine ⟨fin_word f neg _ hlt, (kept : Rat) * P2 last, ?_, Rat.mul_nonneg (by exact_mod_cast Nat.zero_le _) (P2_nn _), ?_, ?_, hex⟩
    · unfold fval Datum.val
      rw [hr]
      simp only [hq]
    · rw [hk2d]; grind
    · rw [hk2d]; grind
end Go.Flt
