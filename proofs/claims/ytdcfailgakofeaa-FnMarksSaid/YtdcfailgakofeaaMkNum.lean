/-
  Plain facts: relative errors of 32-bit operations; lists that are spread keep their bounds; rounds of sharpening are told.
-/
import Derived.Test.YtdcfailgakofeaaMk11
import Derived.Test.YtdcfailgakofeaaPhLaw
namespace Go.Flt
open Ieee Go.Proofs.Ytdcfailgakofeaa

abbrev ee : Rat := 1 / 1048576
abbrev tiny : Rat := 1 / 340282366920938463463374607431768211456
theorem lp149 : P2 single.leastPlace = 1 / 713623846352979940529142984724747568191373312 := by decide +kernel

theorem Nr.rel {v : Rat} {r : Nat} (h : Nr single v r) (hv : tiny ≤ v) : v - v * ee ≤ fval single r ∧ fval single r ≤ v + v * ee := by
  have h1 := h.up
  have h2 := h.down
  have e : (-single.fractionBits : Int) = -23 := rfl
  rw [e, P2_m23, lp149, Rat.abs_of_nonneg (by grind)] at h1 h2
  constructor <;> grind

theorem rep_zero : Rep single 0 := ⟨0, 0, by decide +kernel, by decide, by decide⟩

theorem Rnd.rel {v : Rat} {r : Nat} (h : Rnd single v r) (hv : v = 0 ∨ tiny ≤ v) : v - v * ee ≤ fval single r ∧ fval single r ≤ v + v * ee := by
  rcases hv with rfl | hv
  · have := h.exact rep_zero; grind
  · exact h.nr.rel hv

theorem mulP {a b c d : Rat} (ha : 0 ≤ a) (hc : 0 ≤ c) (h1 : a ≤ b) (h2 : c ≤ d) : a * c ≤ b * d := by
  have m1 := Rat.mul_le_mul_of_nonneg_right h1 hc
  have m2 := Rat.mul_le_mul_of_nonneg_left h2 (show 0 ≤ b by grind)
  grind

/-- One step of the sum of products. -/
theorem acc_step {s k x : Nat} {S P lo hi L H c t : Rat} (fs : fin single s) (fk : fin single k) (fx : fin single x) (hc : fval single k = c) (c0 : c = 0 ∨ 1 ≤ c) (cb : c ≤ 3)
    (hL : 2 * tiny ≤ L) (hLH : L ≤ H) (hH : H ≤ 79228162514264337593543950336) (lx : L ≤ fval single x) (ux : fval single x ≤ H) (ht : tiny ≤ t) (htL : t ≤ L * (9 / 10)) (hs : fval single s = 0 ∨ t ≤ fval single s) (l1 : lo ≤ fval single s) (u1 : fval single s ≤ hi) (lo0 : 0 ≤ lo) (hb : hi ≤ 1267650600228229401496703205376 / 4)
    (hlo : S = (lo + (c * L - c * L * ee)) - (lo + (c * L - c * L * ee)) * ee) (hhi : P = (hi + (c * H + c * H * ee)) + (hi + (c * H + c * H * ee)) * ee) :
    ∃ p r, floatBits .mul .f32 k x = some p ∧ floatBits .add .f32 s p = some r ∧ fin single r ∧ S ≤ fval single r ∧ fval single r ≤ P ∧ (fval single r = 0 ∨ t - t * ee ≤ fval single r) := by
  have hc0 : 0 ≤ c := by grind
  have x0 : 0 ≤ fval single x := by unfold tiny at hL; grind
  have m1 := Rat.mul_le_mul_of_nonneg_left lx hc0
  have m2 := Rat.mul_le_mul_of_nonneg_left ux hc0
  have m3 := Rat.mul_nonneg hc0 x0
  have m4 := Rat.mul_le_mul_of_nonneg_right cb (show 0 ≤ H by grind)
  obtain ⟨p, hp, rp⟩ := mul32 fk fx (by rw [hc]; apply Go.Flt.abs_le <;> unfold big <;> grind)
  rw [hc] at rp
  have hcx : c * fval single x = 0 ∨ (L ≤ c * fval single x) := by
    rcases c0 with rfl | h
    · left; grind
    · right
      have := Rat.mul_le_mul_of_nonneg_right h x0
      grind
  have rr := rp.rel (by
    rcases hcx with h | h
    · exact Or.inl h
    · right; unfold tiny at *; grind)
  have hm : c * fval single x * ee ≤ c * H * ee := Rat.mul_le_mul_of_nonneg_right m2 (by decide +kernel)
  have hp2 : fval single p ≤ c * H + c * H * ee := by unfold ee at *; grind
  have hp1 : c * L - c * L * ee ≤ fval single p := by unfold ee at *; grind
  have hp3 : fval single p = 0 ∨ L - L * ee ≤ fval single p := by
    rcases hcx with h | h
    · left; rw [h] at rr; grind
    · right; unfold ee at *; grind
  have s0 : 0 ≤ fval single s := by grind
  have p0 := rp.pos m3
  have hbig : hi + (c * H + c * H * ee) ≤ 1267650600228229401496703205376 := by unfold ee; grind
  obtain ⟨r, hr, rs⟩ := add32 fs rp.fin (by apply Go.Flt.abs_le <;> unfold big <;> grind)
  have hsp : fval single s + fval single p = 0 ∨ t ≤ fval single s + fval single p := by
    unfold ee tiny at *
    rcases hs with h | h
    · rcases hp3 with h3 | h3
      · left; grind
      · right; grind
    · right; grind
  have rr2 := rs.rel (by
    unfold ee tiny at *
    rcases hsp with h | h
    · exact Or.inl h
    · right; grind)
  refine ⟨p, r, hp, hr, rs.fin, ?_, ?_, ?_⟩
  · rw [hlo]
    have : lo + (c * L - c * L * ee) ≤ fval single s + fval single p := by grind
    have := Rat.mul_le_mul_of_nonneg_right this (show (0 : Rat) ≤ 1 - ee by decide +kernel)
    grind
  · rw [hhi]
    have : fval single s + fval single p ≤ hi + (c * H + c * H * ee) := by grind
    have := Rat.mul_le_mul_of_nonneg_right this (show (0 : Rat) ≤ ee by decide +kernel)
    grind
  · rcases hsp with h | h
    · left; rw [h] at rr2; grind
    · right
      have := Rat.mul_le_mul_of_nonneg_right h (show (0 : Rat) ≤ 1 - ee by decide +kernel)
      grind

/-- A kernel of 1 or 3 small whole numbers, of which none but the middle need be above 0. -/
structure Small (ks : Nat → Nat) (m : Nat) (c : Nat → Nat) : Prop where
  one : m = 1 ∨ m = 3
  fin : ∀ i, i < m → fin single (ks i)
  val : ∀ i, i < m → fval single (ks i) = (c i : Rat)
  le : ∀ i, i < m → c i ≤ 3
  mid : 1 ≤ c (m / 2)

/-- The sum of a kernel's numbers. -/
def wsum (c : Nat → Nat) (m : Nat) : Nat := if m = 1 then c 0 else c 0 + c 1 + c 2

theorem nat_alt (n : Nat) : ((n : Rat) = 0 ∨ 1 ≤ (n : Rat)) := by
  rcases Nat.eq_zero_or_pos n with h | h
  · left; rw [h]; rfl
  · right; exact_mod_cast h
theorem nat_le {n k : Nat} (h : n ≤ k) : (n : Rat) ≤ (k : Rat) := by exact_mod_cast h

theorem div_bounds {s all r : Nat} {A lo hi : Rat} (fs : fin single s) (fa : fin single all) (ha : fval single all = A) (A1 : 1 ≤ A) (lo1 : tiny ≤ lo) (h1 : A * lo ≤ fval single s) (h2 : fval single s ≤ A * hi) (hb : hi ≤ big)
    : ∃ r, floatBits .quo .f32 s all = some r ∧ fin single r ∧ lo - lo * ee ≤ fval single r ∧ fval single r ≤ hi + hi * ee := by
  obtain ⟨v, hv⟩ : ∃ v : Rat, v = fval single s / fval single all := ⟨_, rfl⟩
  have hv2 : v * fval single all = fval single s := by rw [hv]; exact Rat.div_mul_cancel (by rw [ha]; grind)
  have hv3 : v * A = fval single s := by rw [← ha]; exact hv2
  have Ap : 0 < A := by grind
  have v1 : lo ≤ v := Rat.le_of_mul_le_mul_right (show lo * A ≤ v * A by grind) Ap
  have v2 : v ≤ hi := Rat.le_of_mul_le_mul_right (show v * A ≤ hi * A by grind) Ap
  have vn : 0 ≤ v := by unfold tiny at lo1; grind
  obtain ⟨q, hq, rq⟩ := div32 fs fa (by rw [ha]; grind) v hv2 (by rw [Rat.abs_of_nonneg vn]; grind)
  have rr := rq.rel (by grind)
  refine ⟨q, hq, rq.fin, ?_, ?_⟩
  · have := Rat.mul_le_mul_of_nonneg_right v1 (show (0 : Rat) ≤ 1 - ee by decide +kernel)
    grind
  · have := Rat.mul_le_mul_of_nonneg_right v2 (show (0 : Rat) ≤ ee by decide +kernel)
    grind

theorem spread_good {xs ks c : Nat → Nat} {n m all : Nat} {L H : Rat} (hk : Small ks m c) (fa : fin single all) (ha : fval single all = (wsum c m : Rat)) (h1 : 1 ≤ n)
    (hL : 4 * tiny ≤ L) (hLH : L ≤ H) (hH : H ≤ 79228162514264337593543950336 / 100) (fx : ∀ i, i < n → fin single (xs i)) (lx : ∀ i, i < n → L ≤ fval single (xs i)) (ux : ∀ i, i < n → fval single (xs i) ≤ H) (i : Nat) (hi : i < n) :
    ∃ z, spreadO xs ks n m all i = some z ∧ fin single z ∧ L - 10 * (L * ee) ≤ fval single z ∧ fval single z ≤ H + 14 * (H * ee) := by
  have hat : ∀ half k, atN n half i k < n := fun half k => by unfold atN; omega
  have z0 : fval single 0 = 0 := zero_val
  have H0 : 0 ≤ H := by unfold tiny at hL; grind
  have t1 : tiny ≤ L * (9 / 10) := by unfold tiny at *; grind
  rcases hk.one with rfl | rfl
  · have hmid : 1 ≤ c 0 := hk.mid
    have ec : (wsum c 1 : Rat) = (c 0 : Rat) := rfl
    rw [ec] at ha
    have c1 : (1 : Rat) ≤ (c 0 : Rat) := by exact_mod_cast hmid
    have c3 := nat_le (hk.le 0 (by decide))
    obtain ⟨p, r, hp, hr, fr, r1, r2, _⟩ := acc_step (lo := 0) (hi := 0) (t := L * (9 / 10)) zero_fin (hk.fin 0 (by decide)) (fx _ (hat 0 0)) (hk.val 0 (by decide)) (nat_alt _) c3 (by grind) hLH (by grind) (lx _ (hat 0 0)) (ux _ (hat 0 0)) t1 (by grind) (Or.inl z0) (by rw [z0]; exact Rat.le_refl) (by rw [z0]; exact Rat.le_refl) Rat.le_refl (by decide +kernel) rfl rfl
    obtain ⟨q, hq, fq, q1, q2⟩ := div_bounds (A := (c 0 : Rat)) (lo := L - L * ee * 3) (hi := H + H * ee * 3) (r := 0) fr fa ha c1 (by unfold ee tiny at *; grind) (by
      generalize (c 0 : Rat) = C at *
      have m1 := Rat.mul_le_mul_of_nonneg_left (show L - L * ee * 3 ≤ L - L * ee - (L - L * ee) * ee by unfold ee tiny at *; grind) (show 0 ≤ C by grind)
      grind) (by
      generalize (c 0 : Rat) = C at *
      have m1 := Rat.mul_le_mul_of_nonneg_left (show H + H * ee + (H + H * ee) * ee ≤ H + H * ee * 3 by unfold ee tiny at *; grind) (show 0 ≤ C by grind)
      grind) (by unfold ee big; grind)
    refine ⟨q, ?_, fq, by unfold ee tiny at *; grind, by unfold ee tiny at *; grind⟩
    unfold spreadO
    simp only [accW, Nat.reduceDiv, Option.bind_some, hp, hr, hq]
  · have hmid : 1 ≤ c 1 := hk.mid
    have ec : (wsum c 3 : Rat) = (c 0 : Rat) + (c 1 : Rat) + (c 2 : Rat) := by unfold wsum; rw [if_neg (by decide), Rat.natCast_add, Rat.natCast_add]
    rw [ec] at ha
    have c1 : (1 : Rat) ≤ (c 1 : Rat) := by exact_mod_cast hmid
    have l0 := nat_le (hk.le 0 (by decide))
    have l1 := nat_le (hk.le 1 (by decide))
    have l2 := nat_le (hk.le 2 (by decide))
    have n0 := nat_le (Nat.zero_le (c 0))
    have n2 := nat_le (Nat.zero_le (c 2))
    have e3 : ((3 : Nat) : Rat) = 3 := rfl
    have e0 : ((0 : Nat) : Rat) = 0 := rfl
    rw [e3] at l0 l1 l2
    rw [e0] at n0 n2
    obtain ⟨p, r, hp, hr, fr, r1, r2, r3⟩ := acc_step (lo := 0) (hi := 0) (t := L * (9 / 10)) zero_fin (hk.fin 0 (by decide)) (fx _ (hat 1 0)) (hk.val 0 (by decide)) (nat_alt _) l0 (by grind) hLH (by grind) (lx _ (hat 1 0)) (ux _ (hat 1 0)) t1 (by grind) (Or.inl z0) (by rw [z0]; exact Rat.le_refl) (by rw [z0]; exact Rat.le_refl) Rat.le_refl (by decide +kernel) rfl rfl
    generalize (c 0 : Rat) = C0 at *
    have b1 : C0 * L - 3 * (C0 * L * ee) ≤ fval single r := by
      have := Rat.mul_nonneg n0 (show 0 ≤ L by unfold tiny at *; grind)
      unfold ee at *; grind
    have b2 : fval single r ≤ C0 * H + 3 * (C0 * H * ee) := by
      have := Rat.mul_nonneg n0 H0
      unfold ee at *; grind
    have m0 := Rat.mul_nonneg n0 (show 0 ≤ L by unfold tiny at *; grind)
    have m0' := Rat.mul_nonneg n0 H0
    have m0b := Rat.mul_le_mul_of_nonneg_right l0 H0
    obtain ⟨p', r', hp', hr', fr', r1', r2', r3'⟩ := acc_step (lo := C0 * L - 3 * (C0 * L * ee)) (hi := C0 * H + 3 * (C0 * H * ee)) (t := L * (9 / 10) - L * (9 / 10) * ee) fr (hk.fin 1 (by decide)) (fx _ (hat 1 1)) (hk.val 1 (by decide)) (nat_alt _) l1 (by grind) hLH (by grind) (lx _ (hat 1 1)) (ux _ (hat 1 1)) (by unfold ee tiny at *; grind) (by unfold ee tiny at *; grind) r3 b1 b2 (by unfold ee; grind) (by unfold ee; grind) rfl rfl
    generalize (c 1 : Rat) = C1 at *
    have k1 := Rat.mul_nonneg (show 0 ≤ C1 by grind) (show 0 ≤ L by unfold tiny at *; grind)
    have k1' := Rat.mul_nonneg (show 0 ≤ C1 by grind) H0
    have k1b := Rat.mul_le_mul_of_nonneg_right l1 H0
    have d1 : (C0 * L + C1 * L) - 5 * ((C0 * L + C1 * L) * ee) ≤ fval single r' := by unfold ee at *; grind
    have d2 : fval single r' ≤ (C0 * H + C1 * H) + 6 * ((C0 * H + C1 * H) * ee) := by unfold ee at *; grind
    obtain ⟨p'', r'', hp'', hr'', fr'', r1'', r2'', r3''⟩ := acc_step (lo := (C0 * L + C1 * L) - 5 * ((C0 * L + C1 * L) * ee)) (hi := (C0 * H + C1 * H) + 6 * ((C0 * H + C1 * H) * ee)) (t := L * (9 / 10) - L * (9 / 10) * ee - (L * (9 / 10) - L * (9 / 10) * ee) * ee) fr' (hk.fin 2 (by decide)) (fx _ (hat 1 2)) (hk.val 2 (by decide)) (nat_alt _) l2 (by grind) hLH (by grind) (lx _ (hat 1 2)) (ux _ (hat 1 2)) (by unfold ee tiny at *; grind) (by unfold ee tiny at *; grind) r3' d1 d2 (by unfold ee; grind) (by unfold ee; grind) rfl rfl
    generalize (c 2 : Rat) = C2 at *
    have k2 := Rat.mul_nonneg n2 (show 0 ≤ L by unfold tiny at *; grind)
    have k2' := Rat.mul_nonneg n2 H0
    have k2b := Rat.mul_le_mul_of_nonneg_right l2 H0
    obtain ⟨q, hq, fq, q1, q2⟩ := div_bounds (A := C0 + C1 + C2) (lo := L - L * ee * 8) (hi := H + H * ee * 10) (r := 0) fr'' fa ha (by grind) (by unfold ee tiny at *; grind) (by unfold ee at *; grind) (by unfold ee at *; grind) (by unfold ee big; grind)
    refine ⟨q, ?_, fq, by unfold ee tiny at *; grind, by unfold ee tiny at *; grind⟩
    unfold spreadO
    simp only [accW, Nat.reduceDiv, Option.bind_some, hp, hr, hp', hr', hp'', hr'', hq]
end Go.Flt
