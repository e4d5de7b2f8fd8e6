/-
  Square roots of finite floating words: their squares are near.
-/
import Derived.Test.YtdcfailgakofeaaFltUse
namespace Go.Flt
open Ieee

theorem rootFrom_spec (n : Nat) : ∀ (todo root : Nat), root * root ≤ n → n < (root + 2 ^ todo) * (root + 2 ^ todo) →
    Datum.rootFrom n todo root * Datum.rootFrom n todo root ≤ n ∧ n < (Datum.rootFrom n todo root + 1) * (Datum.rootFrom n todo root + 1)
  | 0, root, h1, h2 => by
    unfold Datum.rootFrom
    exact ⟨h1, by simpa using h2⟩
  | todo + 1, root, h1, h2 => by
    unfold Datum.rootFrom
    simp only [Nat.shiftLeft_eq, Nat.one_mul]
    have e : 2 ^ (todo + 1) = 2 ^ todo + 2 ^ todo := by rw [Nat.pow_succ]; omega
    by_cases h : (root + 2 ^ todo) * (root + 2 ^ todo) ≤ n
    · rw [if_pos h]
      exact rootFrom_spec n todo _ h (by rw [e] at h2; rw [Nat.add_assoc]; exact h2)
    · rw [if_neg h]
      exact rootFrom_spec n todo _ h1 (by omega)

/-- The whole root. -/
theorem root_whole (n : Nat) : ∃ s, Datum.rootFrom n (n.log2 / 2 + 1) 0 = s ∧ s * s ≤ n ∧ n < (s + 1) * (s + 1) := by
  refine ⟨_, rfl, ?_⟩
  apply rootFrom_spec
  · omega
  · have h1 : n < 2 ^ (n.log2 + 1) := Nat.lt_log2_self
    have h2 : 2 ^ (n.log2 + 1) ≤ 2 ^ (2 * (n.log2 / 2 + 1)) := Nat.pow_le_pow_right (by decide) (by omega)
    have h3 : 2 ^ (2 * (n.log2 / 2 + 1)) = (0 + 2 ^ (n.log2 / 2 + 1)) * (0 + 2 ^ (n.log2 / 2 + 1)) := by
      rw [Nat.zero_add, ← Nat.pow_add]; congr 1; omega
    omega

/-- r's square is near v. -/
structure Sq (v : Rat) (r : Nat) : Prop where
  fin : fin double r
  pos : 0 ≤ fval double r
  up : fval double r * fval double r ≤ v + (v * (1 / 1125899906842624) + 1 / 1606938044258990275541962092341162602522202993782792835301376)
  down : v ≤ fval double r * fval double r + (v * (1 / 1125899906842624) + 1 / 1606938044258990275541962092341162602522202993782792835301376)

abbrev e53 : Rat := 1 / 9007199254740992
theorem sq_close (q r L : Rat) (hq : 0 ≤ q) (hr : 0 ≤ r) (hL : 0 ≤ L) (hqb : q ≤ 1152921504606846976) (hLb : L ≤ 1 / 2037035976334486086268445688409378161051468393665936250636140449354381299763336706183397376) (up : r ≤ q + q * e53 + L) (dn : q ≤ r + q * e53 + L) :
    r * r ≤ q * q + q * q * (4 * e53) + 1 / 3213876088517980551083924184682325205044405987565585670602752 ∧ q * q ≤ r * r + q * q * (4 * e53) + 1 / 3213876088517980551083924184682325205044405987565585670602752 := by
  have m1 := Rat.mul_le_mul_of_nonneg_right up hr
  have m2 := Rat.mul_le_mul_of_nonneg_right up hq
  have m3 := Rat.mul_le_mul_of_nonneg_right up hL
  have n1 := Rat.mul_le_mul_of_nonneg_right dn hr
  have n2 := Rat.mul_le_mul_of_nonneg_right dn hq
  have l1 := Rat.mul_le_mul_of_nonneg_left hqb hL
  have l2 := Rat.mul_le_mul_of_nonneg_right hLb hL
  have q0 := Rat.mul_nonneg hq hq
  have q1 := Rat.mul_nonneg hq hL
  have q2 := Rat.mul_nonneg hL hL
  have q3 := Rat.mul_nonneg hq hr
  have q4 := Rat.mul_nonneg hr hL
  unfold e53 at *
  constructor <;> grind

theorem root_parts (N W st : Nat) (p q v : Rat) (hp : 0 ≤ p) (h1 : W * W ≤ N) (h2 : N < (W + 1) * (W + 1)) (hW : 2 ^ 54 ≤ W) (hst : st = (W * W != N).toNat) (hq : q = ((W : Rat) + (st : Rat) * (1 / 2)) * p) (hv : v = (N : Rat) * (p * p)) :
    q * q ≤ v + v * e53 ∧ v ≤ q * q + v * e53 := by
  have hWr : (18014398509481984 : Rat) ≤ (W : Rat) := by
    have : ((18014398509481984 : Nat) : Rat) ≤ (W : Rat) := by exact_mod_cast hW
    exact this
  have a1 : (W : Rat) * (W : Rat) ≤ (N : Rat) := by exact_mod_cast h1
  have hpp := Rat.mul_nonneg hp hp
  have a2 := Rat.mul_le_mul_of_nonneg_right hWr (show (0 : Rat) ≤ (W : Rat) by grind)
  have a3 : (N : Rat) + 1 ≤ ((W : Rat) + 1) * ((W : Rat) + 1) := by exact_mod_cast h2
  have b1 := Rat.mul_le_mul_of_nonneg_right a1 hpp
  have b2 := Rat.mul_le_mul_of_nonneg_right a2 hpp
  have b3 := Rat.mul_le_mul_of_nonneg_right a3 hpp
  have b0 : 0 ≤ (W : Rat) * (p * p) := Rat.mul_nonneg (by grind) hpp
  unfold e53 at *
  by_cases h : W * W = N
  · have : st = 0 := by rw [hst]; simp [h]
    subst this
    have hN : (N : Rat) = (W : Rat) * (W : Rat) := by rw [← h]; push_cast; rfl
    have e0 : ((0 : Nat) : Rat) = 0 := rfl
    rw [e0] at hq
    subst hq hv
    rw [hN] at *
    constructor <;> grind
  · have : st = 1 := by rw [hst]; simp [h]
    subst this
    have h3 : (W : Rat) * (W : Rat) + 1 ≤ (N : Rat) := by
      have : W * W + 1 ≤ N := by omega
      exact_mod_cast this
    have b4 := Rat.mul_le_mul_of_nonneg_right h3 hpp
    have e1 : ((1 : Nat) : Rat) = 1 := rfl
    rw [e1] at hq
    subst hq hv
    constructor <;> grind

theorem lpBig : P2 double.leastPlace ≤ 1 / 2037035976334486086268445688409378161051468393665936250636140449354381299763336706183397376 := by
  have e : P2 (-300) = 1 / 2037035976334486086268445688409378161051468393665936250636140449354381299763336706183397376 := by decide +kernel
  rw [← e]; exact P2_mono (by decide)

theorem sqrt_sq {x : Nat} (hx : fin double x) (h0 : 0 ≤ fval double x) (hb : fval double x ≤ big) : ∃ r, double.sqrt x = some r ∧ Sq (fval double x) r := by
  obtain ⟨s, m, i, e1, _⟩ := fin_read hx
  have hv : fval double x = Datum.val (.number s m i) := by unfold fval; rw [e1]
  unfold Format.sqrt
  rw [e1]
  by_cases hm : m = 0
  · subst hm
    refine ⟨_, rfl, ?_⟩
    have hz : Datum.val (.number s 0 i) = 0 := by unfold Datum.val; cases s <;> simp
    have hR := nearest_rnd double hE64 s 0 i (by rw [abs_number]; have := P2_pos (top double); simp; exact this)
    rw [hz] at hR
    have hr0 : fval double (double.nearest s 0 i) = 0 := by
      have h1 := hR.pos (by grind)
      have h2 := hR.neg (by grind)
      grind
    have e : double.write (.number s 0 i) = double.nearest s 0 i := rfl
    rw [hv, hz]
    refine ⟨by rw [e]; exact hR.fin, ?_, ?_, ?_⟩ <;> rw [e, hr0] <;> grind
  · have hs : s = false := by
      cases s
      · rfl
      · rw [hv] at h0
        unfold Datum.val at h0
        have : 0 < (m : Rat) * P2 i := Rat.mul_pos (by exact_mod_cast Nat.pos_of_ne_zero hm) (P2_pos _)
        simp at h0; grind
    subst hs
    simp only [Datum.root]
    rw [if_neg hm, if_neg (by simp)]
    simp only [Option.map_some]
    generalize hmo : 2 * (double.fractionBits + 2) - m.log2 = more0
    generalize hmore : more0 + ((i - (more0 : Int)) % 2).toNat = more
    have hlog : 108 ≤ m.log2 + more := by
      have : double.fractionBits = 52 := rfl
      omega
    have hev : ∃ h : Int, i - (more : Int) = 2 * h := ⟨(i - (more : Int)) / 2, by omega⟩
    obtain ⟨h, hh⟩ := hev
    have hdiv : (i - (more : Int)) / 2 = h := by omega
    rw [hdiv]
    generalize hN : m <<< more = N
    obtain ⟨W, hW, w1, w2⟩ := root_whole N
    rw [hW]
    have hNbig : 2 ^ 108 ≤ N := by
      rw [← hN, Nat.shiftLeft_eq]
      have a1 : 2 ^ m.log2 ≤ m := Nat.log2_self_le hm
      have a2 : 2 ^ m.log2 * 2 ^ more ≤ m * 2 ^ more := Nat.mul_le_mul_right _ a1
      rw [← Nat.pow_add] at a2
      have a3 : 2 ^ 108 ≤ 2 ^ (m.log2 + more) := Nat.pow_le_pow_right (by decide) hlog
      omega
    have hWbig : 2 ^ 54 ≤ W := by
      rcases Nat.lt_or_ge W (2 ^ 54) with h1 | h1
      · have : (W + 1) * (W + 1) ≤ 2 ^ 54 * 2 ^ 54 := Nat.mul_le_mul (by omega) (by omega)
        have e : 2 ^ 54 * 2 ^ 54 = 2 ^ 108 := by decide
        omega
      · exact h1
    generalize hst : (W * W != N).toNat = st
    have hvN : fval double x = (N : Rat) * (P2 h * P2 h) := by
      rw [hv, ← hN, ← P2_add, shift_val]
      unfold Datum.val
      simp only [Bool.false_eq_true, if_false]
      congr 2; omega
    obtain ⟨q, hq⟩ : ∃ q : Rat, q = ((W : Rat) + (st : Rat) * (1 / 2)) * P2 h := ⟨_, rfl⟩
    obtain ⟨c1, c2⟩ := root_parts N W st (P2 h) q (fval double x) (P2_nn h) w1 w2 hWbig hst.symm hq hvN
    have hqv : Datum.val (.number false (2 * W + st) (h - 1)) = q := by
      unfold Datum.val
      simp only [Bool.false_eq_true, if_false]
      rw [hq, ← P2_half h, Rat.natCast_add, Rat.natCast_mul]
      have : ((2 : Nat) : Rat) = 2 := rfl
      rw [this]; grind
    have hq0 : 0 ≤ q := by rw [← hqv]; unfold Datum.val; simp only [Bool.false_eq_true, if_false]; exact nn_mul _ _
    have hqb : q ≤ 1152921504606846976 := by
      rcases Rat.le_total (a := q) (b := 1152921504606846976) with h1 | h1
      · exact h1
      · have a1 := Rat.mul_le_mul_of_nonneg_right h1 hq0
        unfold big e53 at *
        grind
    have hR := nearest_rnd double hE64 false (2 * W + st) (h - 1) (by
      rw [hqv, Rat.abs_of_nonneg hq0]
      have a1 : (1152921504606846976 : Rat) < P2 (top double) := by
        have a2 : P2 100 ≤ P2 (top double) := P2_mono (by decide)
        rw [P2_100] at a2
        grind
      grind)
    rw [hqv] at hR
    have e : double.write (.number false (2 * W + st) (h - 1)) = double.nearest false (2 * W + st) (h - 1) := rfl
    rw [e]
    generalize double.nearest false (2 * W + st) (h - 1) = r at hR
    have u1 := hR.up
    have u2 := hR.down
    have r0 := hR.pos hq0
    have ee : (-(double.fractionBits : Int)) = -52 := by decide
    rw [ee, P2_m52, Rat.abs_of_nonneg hq0] at u1 u2
    obtain ⟨d1, d2⟩ := sq_close q (fval double r) (P2 double.leastPlace * (1 / 2)) hq0 r0 (by have := P2_nn double.leastPlace; grind) hqb (by have := lpBig; have := P2_nn double.leastPlace; grind) (by unfold e53; grind) (by unfold e53; grind)
    refine ⟨r, rfl, hR.fin, r0, ?_, ?_⟩
    · unfold e53 at *; grind
    · unfold e53 at *; grind

/-- A root below b. -/
theorem Sq.le {v b : Rat} {r : Nat} (h : Sq v r) (hb : 0 ≤ b) (hv : v + (v * (1 / 1125899906842624) + 1 / 1606938044258990275541962092341162602522202993782792835301376) ≤ b * b) : fval double r ≤ b := by
  rcases Rat.le_total (a := fval double r) (b := b) with h1 | h1
  · exact h1
  · by_cases h2 : fval double r = b
    · grind
    · have h3 : b < fval double r := by grind
      have a1 := Rat.mul_le_mul_of_nonneg_right h1 hb
      have a2 : b * fval double r < fval double r * fval double r := Rat.mul_lt_mul_of_pos_right h3 (by grind)
      have := h.up
      grind
end Go.Flt
