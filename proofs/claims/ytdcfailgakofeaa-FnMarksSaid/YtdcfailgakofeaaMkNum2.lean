/-
  Plain facts: rounds of sharpening are told and stay above 0; a kernel of one number brings the list back.
-/
import Derived.Test.YtdcfailgakofeaaMkNum
namespace Go.Flt
open Ieee Go.Proofs.Ytdcfailgakofeaa

theorem inv_pos {M I : Rat} (hM : 0 < M) (h : I * M = 1) : 0 < I := by
  rcases Rat.le_total (a := I) (b := 0) with h1 | h1
  · have := Rat.mul_nonneg (show 0 ≤ -I by grind) (show 0 ≤ M by grind)
    grind
  · by_cases h2 : I = 0
    · rw [h2] at h; grind
    · grind

/-- The quotient of a number from 1/4 to 4 and one near M or its inverse. -/
theorem ratio_step {a x : Nat} {M I : Rat} (fa : fin single a) (fx : fin single x) (a1 : 1 / 4 ≤ fval single a) (a2 : fval single a ≤ 4) (hM : 0 < M) (hI : I * M = 1) (hb : M ≤ 19342813113834066795298816) (hi : I ≤ 19342813113834066795298816)
    (x1 : I - 10 * (I * ee) ≤ fval single x) (x2 : fval single x ≤ M + 14 * (M * ee)) :
    ∃ r, floatBits .quo .f32 a x = some r ∧ fin single r ∧ I * (1 / 4) - 20 * (I * (1 / 4) * ee) ≤ fval single r ∧ fval single r ≤ M * 4 + 20 * (M * 4 * ee) := by
  have I0 := inv_pos hM hI
  have x0 : 0 < fval single x := by unfold ee at x1; grind
  obtain ⟨v, hv⟩ : ∃ v : Rat, v = fval single a / fval single x := ⟨_, rfl⟩
  have hv2 : v * fval single x = fval single a := by rw [hv]; exact Rat.div_mul_cancel (by grind)
  have v0 : 0 ≤ v := by
    rcases Rat.le_total (a := 0) (b := v) with h | h
    · exact h
    · have := Rat.mul_nonneg (show 0 ≤ -v by grind) (show 0 ≤ fval single x by grind); grind
  have m1 := Rat.mul_le_mul_of_nonneg_left x1 v0
  have m2 := Rat.mul_le_mul_of_nonneg_left x2 v0
  -- v I <= 4 (1 + 11 e), v M >= 1/4 (1 - 15 e)
  have e1 : v * I * (1 - 10 * ee) ≤ 4 := by grind
  have e2 : 1 / 4 ≤ v * M * (1 + 14 * ee) := by grind
  have vI : v * I ≤ 4 * (1 + 11 * ee) := by
    apply Rat.le_of_mul_le_mul_right (c := 1 - 10 * ee) _ (by decide +kernel)
    have : (4 : Rat) ≤ 4 * (1 + 11 * ee) * (1 - 10 * ee) := by decide +kernel
    grind
  have vM : 1 / 4 * (1 - 15 * ee) ≤ v * M := by
    apply Rat.le_of_mul_le_mul_right (c := 1 + 14 * ee) _ (by decide +kernel)
    have : (1 / 4 * (1 - 15 * ee) * (1 + 14 * ee) : Rat) ≤ 1 / 4 := by decide +kernel
    grind
  have n1 := Rat.mul_le_mul_of_nonneg_right vI (show 0 ≤ M by grind)
  have n2 := Rat.mul_le_mul_of_nonneg_right vM (show 0 ≤ I by grind)
  have q1 : v * I * M = v := by rw [Rat.mul_assoc, hI, Rat.mul_one]
  have q2 : v * M * I = v := by rw [Rat.mul_assoc, Rat.mul_comm M I, hI, Rat.mul_one]
  rw [q1] at n1
  rw [q2] at n2
  have hIb : 1 ≤ I * 19342813113834066795298816 := by
    have := Rat.mul_le_mul_of_nonneg_left hb (show 0 ≤ I by grind)
    grind
  obtain ⟨r, hr, rr⟩ := div32 fa fx (by grind) v hv2 (by rw [Rat.abs_of_nonneg v0]; unfold big; unfold ee at *; grind)
  have rl := rr.rel (by unfold tiny ee at *; grind)
  refine ⟨r, hr, rr.fin, ?_, ?_⟩
  · unfold ee at *; grind
  · unfold ee at *; grind

/-- The words of one round. -/
def xW (ks : Nat → Nat) (n m all : Nat) (now : Nat → Nat) (i : Nat) : Nat := (spreadO now ks n m all i).getD 0
def rtW (xs x : Nat → Nat) (i : Nat) : Nat := (floatBits .quo .f32 (xs i) (x i)).getD 0
def nxtW (now y : Nat → Nat) (i : Nat) : Nat := (floatBits .mul .f32 (now i) (y i)).getD 0
def roundW (xs ks kb : Nat → Nat) (n m all allb : Nat) (now : Nat → Nat) : Nat → Nat := nxtW now (xW kb n m allb (rtW xs (xW ks n m all now)))

theorem sharp_round {xs ks kb c cb now : Nat → Nat} {n m all allb : Nat} {M I : Rat} (hk : Small ks m c) (hkb : Small kb m cb) (fa : fin single all) (ha : fval single all = (wsum c m : Rat)) (fb : fin single allb) (hb : fval single allb = (wsum cb m : Rat)) (h1 : 1 ≤ n)
    (fx : ∀ i, i < n → fin single (xs i)) (lx : ∀ i, i < n → 1 / 4 ≤ fval single (xs i)) (ux : ∀ i, i < n → fval single (xs i) ≤ 4)
    (M1 : 1 ≤ M) (hI : I * M = 1) (hM : M ≤ 4620000000000000000) (fn : ∀ i, i < n → fin single (now i)) (ln : ∀ i, i < n → I ≤ fval single (now i)) (un : ∀ i, i < n → fval single (now i) ≤ M) :
    Sharp xs ks kb n m all allb now (xW ks n m all now) (rtW xs (xW ks n m all now)) (xW kb n m allb (rtW xs (xW ks n m all now))) (roundW xs ks kb n m all allb now) ∧
    ∀ i, i < n → I * I * (1 / 4) - 60 * (I * I * (1 / 4) * ee) ≤ fval single (roundW xs ks kb n m all allb now i) ∧ fval single (roundW xs ks kb n m all allb now i) ≤ M * M * 4 + 60 * (M * M * 4 * ee) := by
  have I0 := inv_pos (show 0 < M by grind) hI
  have I1 : I ≤ 1 := by
    have := Rat.mul_le_mul_of_nonneg_left M1 (show 0 ≤ I by grind)
    grind
  have hIb : 1 ≤ I * 4620000000000000000 := by
    have := Rat.mul_le_mul_of_nonneg_left hM (show 0 ≤ I by grind)
    grind
  have X : ∀ i, i < n → spreadO now ks n m all i = some (xW ks n m all now i) ∧ fin single (xW ks n m all now i) ∧ I - 10 * (I * ee) ≤ fval single (xW ks n m all now i) ∧ fval single (xW ks n m all now i) ≤ M + 14 * (M * ee) := fun i hi => by
    obtain ⟨z, hz, f, l, u⟩ := spread_good hk fa ha h1 (by unfold tiny; grind) (by grind) (by grind) fn ln un i hi
    unfold xW
    rw [hz]; exact ⟨rfl, f, l, u⟩
  generalize hx : xW ks n m all now = x at *
  have R : ∀ i, i < n → floatBits .quo .f32 (xs i) (x i) = some (rtW xs x i) ∧ fin single (rtW xs x i) ∧ I * (1 / 4) - 20 * (I * (1 / 4) * ee) ≤ fval single (rtW xs x i) ∧ fval single (rtW xs x i) ≤ M * 4 + 20 * (M * 4 * ee) := fun i hi => by
    obtain ⟨z, hz, f, l, u⟩ := ratio_step (fx i hi) (X i hi).2.1 (lx i hi) (ux i hi) (show 0 < M by grind) hI (by grind) (by grind) (X i hi).2.2.1 (X i hi).2.2.2
    unfold rtW
    rw [hz]; exact ⟨rfl, f, l, u⟩
  generalize hr : rtW xs x = rt at *
  have Y : ∀ i, i < n → spreadO rt kb n m allb i = some (xW kb n m allb rt i) ∧ fin single (xW kb n m allb rt i) ∧ I * (1 / 4) - 35 * (I * (1 / 4) * ee) ≤ fval single (xW kb n m allb rt i) ∧ fval single (xW kb n m allb rt i) ≤ M * 4 + 40 * (M * 4 * ee) := fun i hi => by
    obtain ⟨z, hz, f, l, u⟩ := spread_good (L := I * (1 / 4) - 20 * (I * (1 / 4) * ee)) (H := M * 4 + 20 * (M * 4 * ee)) hkb fb hb h1 (by unfold tiny ee; grind) (by unfold ee; grind) (by unfold ee; grind) (fun i hi => (R i hi).2.1) (fun i hi => (R i hi).2.2.1) (fun i hi => (R i hi).2.2.2) i hi
    unfold xW
    rw [hz]; exact ⟨rfl, f, by unfold ee at *; grind, by unfold ee at *; grind⟩
  generalize hy : xW kb n m allb rt = y at *
  have N : ∀ i, i < n → floatBits .mul .f32 (now i) (y i) = some (nxtW now y i) ∧ fin single (nxtW now y i) ∧ I * I * (1 / 4) - 60 * (I * I * (1 / 4) * ee) ≤ fval single (nxtW now y i) ∧ fval single (nxtW now y i) ≤ M * M * 4 + 60 * (M * M * 4 * ee) := fun i hi => by
    obtain ⟨_, fy, ly, uy⟩ := Y i hi
    have l0 : 0 ≤ I * (1 / 4) - 35 * (I * (1 / 4) * ee) := by unfold ee; grind
    have p1 := mulP (show 0 ≤ I by grind) l0 (ln i hi) ly
    have p2 := mulP (show 0 ≤ fval single (now i) by have := ln i hi; grind) (show 0 ≤ fval single (y i) by grind) (un i hi) uy
    have II := Rat.mul_nonneg (show 0 ≤ I by grind) (show 0 ≤ I by grind)
    have MM := Rat.mul_le_mul_of_nonneg_right hM (show 0 ≤ M by grind)
    have MM0 := Rat.mul_nonneg (show 0 ≤ M by grind) (show 0 ≤ M by grind)
    have II2 : 1 / (4620000000000000000 * 4620000000000000000) ≤ I * I := by
      have := mulP (show (0 : Rat) ≤ 1 / 4620000000000000000 by decide +kernel) (show (0 : Rat) ≤ 1 / 4620000000000000000 by decide +kernel) (show 1 / 4620000000000000000 ≤ I by grind) (show 1 / 4620000000000000000 ≤ I by grind)
      grind
    have v0 : 0 ≤ fval single (now i) * fval single (y i) := by unfold ee at *; grind
    have top127 : P2 (top single) = 170141183460469231731687303715884105728 * 1 := by decide +kernel
    obtain ⟨r, hr, rr⟩ := mul_rnd single hE32 (fn i hi) fy (by
      rw [Rat.abs_of_nonneg v0, top127]
      unfold ee at *; grind)
    have e : floatBits .mul .f32 (now i) (y i) = some r := hr
    have rl := rr.rel (by right; unfold ee tiny at *; grind)
    unfold nxtW
    rw [e]
    refine ⟨rfl, rr.fin, ?_, ?_⟩
    · show _ ≤ fval single r
      unfold ee at *; grind
    · show fval single r ≤ _
      unfold ee at *; grind
  have e : roundW xs ks kb n m all allb now = nxtW now y := by unfold roundW; rw [hx, hr, hy]
  rw [e]
  refine ⟨⟨fun i hi => (X i hi).1, fun i hi => (X i hi).2.1, fun i hi => ?_, fun i hi => (R i hi).1, fun i hi => (R i hi).2.1, fun i hi => (Y i hi).1, fun i hi => (Y i hi).2.1, fun i hi => (N i hi).1, fun i hi => (N i hi).2.1⟩, fun i hi => (N i hi).2.2⟩
  have := (X i hi).2.2.1
  unfold ee at *; grind

/-- The bounds of the rounds. -/
def mR : Nat → Rat
  | 0 => 4
  | r + 1 => 4 * (mR r * mR r) * (1 + 70 * ee)
/-- The rounds. -/
def nowsW (xs ks kb : Nat → Nat) (n m all allb : Nat) : Nat → Nat → Nat
  | 0 => xs
  | r + 1 => roundW xs ks kb n m all allb (nowsW xs ks kb n m all allb r)

theorem mR_le : ∀ r, r < 5 → mR r ≤ 4620000000000000000 ∧ 1 ≤ mR r ∧ 1 / mR r * mR r = 1 := by decide +kernel
theorem mR_inv {r : Nat} (h : r < 6) : 1 ≤ mR r ∧ 1 / mR r * mR r = 1 := by
  have : ∀ r, r < 6 → 1 ≤ mR r ∧ 1 / mR r * mR r = 1 := by decide +kernel
  exact this r h

theorem sharp_good {xs ks kb c cb : Nat → Nat} {n m all allb : Nat} (hk : Small ks m c) (hkb : Small kb m cb) (fa : fin single all) (ha : fval single all = (wsum c m : Rat)) (fb : fin single allb) (hb : fval single allb = (wsum cb m : Rat)) (h1 : 1 ≤ n)
    (fx : ∀ i, i < n → fin single (xs i)) (lx : ∀ i, i < n → 1 / 4 ≤ fval single (xs i)) (ux : ∀ i, i < n → fval single (xs i) ≤ 4) :
    ∀ r, r ≤ 5 → (∀ i, i < n → fin single (nowsW xs ks kb n m all allb r i) ∧ 1 / mR r ≤ fval single (nowsW xs ks kb n m all allb r i) ∧ fval single (nowsW xs ks kb n m all allb r i) ≤ mR r) ∧
      (r < 5 → ∃ x rt y, Sharp xs ks kb n m all allb (nowsW xs ks kb n m all allb r) x rt y (nowsW xs ks kb n m all allb (r + 1)))
  | 0, _ => by
    have e : (1 / mR 0 : Rat) = 1 / 4 := by decide +kernel
    have e4 : mR 0 = 4 := rfl
    refine ⟨fun i hi => ⟨fx i hi, by rw [e]; exact lx i hi, by rw [e4]; exact ux i hi⟩, fun _ => ⟨_, _, _, (sharp_round hk hkb fa ha fb hb h1 fx lx ux (M := 4) (I := 1 / 4) (by decide +kernel) (by decide +kernel) (by decide +kernel) fx lx ux).1⟩⟩
  | r + 1, h => by
    obtain ⟨ih, _⟩ := sharp_good hk hkb fa ha fb hb h1 fx lx ux r (by omega)
    obtain ⟨b1, b2, b3⟩ := mR_le r (by omega)
    obtain ⟨c1, c2⟩ := mR_inv (r := r + 1) (by omega)
    have S := (sharp_round hk hkb fa ha fb hb h1 fx lx ux (M := mR r) (I := 1 / mR r) b2 b3 b1 (fun i hi => (ih i hi).1) (fun i hi => (ih i hi).2.1) (fun i hi => (ih i hi).2.2))
    have bounds : ∀ i, i < n → fin single (nowsW xs ks kb n m all allb (r + 1) i) ∧ 1 / mR (r + 1) ≤ fval single (nowsW xs ks kb n m all allb (r + 1) i) ∧ fval single (nowsW xs ks kb n m all allb (r + 1) i) ≤ mR (r + 1) := fun i hi => by
      have s1 := S.1.fn i hi
      obtain ⟨s2, s3⟩ := S.2 i hi
      have em : mR (r + 1) = 4 * (mR r * mR r) * (1 + 70 * ee) := rfl
      refine ⟨s1, ?_, ?_⟩
      · show _ ≤ fval single (roundW xs ks kb n m all allb (nowsW xs ks kb n m all allb r) i)
        generalize fval single (roundW xs ks kb n m all allb (nowsW xs ks kb n m all allb r) i) = z at *
        generalize hM : mR r = M at *
        generalize hI : 1 / M = I at *
        generalize hJ : 1 / mR (r + 1) = J at *
        have I0 := inv_pos (show 0 < M by grind) b3
        have II := Rat.mul_nonneg (show 0 ≤ I by grind) (show 0 ≤ I by grind)
        have key : 1 ≤ (I * I * (1 / 4) - 60 * (I * I * (1 / 4) * ee)) * mR (r + 1) := by
          rw [em]
          have e1 : I * I * (M * M) = 1 := by
            have : I * I * (M * M) = (I * M) * (I * M) := by grind
            rw [this, b3]; decide +kernel
          have e2 : (I * I * (1 / 4) - 60 * (I * I * (1 / 4) * ee)) * (4 * (M * M) * (1 + 70 * ee)) = (I * I * (M * M)) * ((1 - 60 * ee) * (1 + 70 * ee)) := by grind
          rw [e2, e1]
          decide +kernel
        have key2 : J * mR (r + 1) ≤ (I * I * (1 / 4) - 60 * (I * I * (1 / 4) * ee)) * mR (r + 1) := by rw [c2]; exact key
        have := Rat.le_of_mul_le_mul_right key2 (show 0 < mR (r + 1) by grind)
        grind
      · show fval single (roundW xs ks kb n m all allb (nowsW xs ks kb n m all allb r) i) ≤ _
        rw [em]
        have MM := Rat.mul_nonneg (show 0 ≤ mR r by grind) (show 0 ≤ mR r by grind)
        unfold ee at *
        grind
    refine ⟨bounds, fun h5 => ?_⟩
    obtain ⟨d1, d2, d3⟩ := mR_le (r + 1) h5
    exact ⟨_, _, _, (sharp_round hk hkb fa ha fb hb h1 fx lx ux (M := mR (r + 1)) (I := 1 / mR (r + 1)) d2 d3 d1 (fun i hi => (bounds i hi).1) (fun i hi => (bounds i hi).2.1) (fun i hi => (bounds i hi).2.2)).1⟩

/-! ### A kernel of one number -/
theorem spread_one {xs ks c : Nat → Nat} {n all : Nat} (hk : Small ks 1 c) (fa : fin single all) (ha : fval single all = (wsum c 1 : Rat)) (h1 : 1 ≤ n) {i : Nat} (hi : i < n)
    (fx : fin single (xs i)) (lx : 1 / 100 ≤ fval single (xs i)) (ux : fval single (xs i) ≤ 100) :
    ∃ z, spreadO xs ks n 1 all i = some z ∧ fin single z ∧ fval single (xs i) - 10 * (fval single (xs i) * ee) ≤ fval single z ∧ fval single z ≤ fval single (xs i) + 14 * (fval single (xs i) * ee) := by
  have e : spreadO xs ks n 1 all i = spreadO (fun _ => xs i) ks n 1 all i := by
    unfold spreadO
    have : atN n (1 / 2) i 0 = i := by unfold atN; omega
    simp only [accW, this]
  rw [e]
  exact spread_good hk fa ha h1 (by unfold tiny; grind) Rat.le_refl (by grind) (fun _ _ => fx) (fun _ _ => Rat.le_refl) (fun _ _ => Rat.le_refl) i hi

/-- One round with a kernel of one number: it is near the list again. -/
theorem sharp_one {xs ks kb c cb now x rt y nxt : Nat → Nat} {n all allb : Nat} (hk : Small ks 1 c) (hkb : Small kb 1 cb) (fa : fin single all) (ha : fval single all = (wsum c 1 : Rat)) (fb : fin single allb) (hb : fval single allb = (wsum cb 1 : Rat)) (h1 : 1 ≤ n)
    (S : Sharp xs ks kb n 1 all allb now x rt y nxt) {i : Nat} (hi : i < n) (fx : fin single (xs i)) (lx : 1 / 4 ≤ fval single (xs i)) (ux : fval single (xs i) ≤ 4) (fn : fin single (now i)) (ln : (fval single (now i) - fval single (xs i)).abs ≤ 1 / 5000) :
    (fval single (nxt i) - fval single (xs i)).abs ≤ 1 / 5000 := by
  have bn := abs_bounds ln
  obtain ⟨x', hx', fx', xl, xu⟩ := spread_one hk fa ha h1 hi fn (by grind) (by grind)
  obtain rfl : x i = x' := Option.some.inj ((S.hx i hi).symm.trans hx')
  obtain ⟨v, hv⟩ : ∃ v : Rat, v = fval single (xs i) / fval single (x i) := ⟨_, rfl⟩
  have hv2 : v * fval single (x i) = fval single (xs i) := by rw [hv]; exact Rat.div_mul_cancel (by unfold ee at *; grind)
  have v0 : 0 ≤ v := by
    rcases Rat.le_total (a := 0) (b := v) with h | h
    · exact h
    · have := Rat.mul_nonneg (show 0 ≤ -v by grind) (show 0 ≤ fval single (x i) by unfold ee at *; grind); grind
  have m1 := Rat.mul_le_mul_of_nonneg_left xl v0
  have m2 := Rat.mul_le_mul_of_nonneg_left xu v0
  have m3 := Rat.mul_le_mul_of_nonneg_left (show fval single (xs i) - 1 / 2000 ≤ fval single (x i) by unfold ee at *; grind) v0
  have m4 := Rat.mul_le_mul_of_nonneg_left (show fval single (x i) ≤ fval single (xs i) + 1 / 2000 by unfold ee at *; grind) v0
  have m5 := Rat.mul_le_mul_of_nonneg_left lx v0
  have v2 : v ≤ 101 / 100 := by
    rcases Rat.le_total (a := v) (b := 101 / 100) with h | h
    · exact h
    · exfalso
      have := Rat.mul_le_mul_of_nonneg_right h (show 0 ≤ fval single (xs i) by grind)
      grind
  have v3 : 99 / 100 ≤ v := by
    rcases Rat.le_total (a := 99 / 100) (b := v) with h | h
    · exact h
    · exfalso
      have := Rat.mul_le_mul_of_nonneg_right h (show 0 ≤ fval single (xs i) by grind)
      grind
  obtain ⟨r', hr', rr⟩ := div32 fx fx' (by unfold ee at *; grind) v hv2 (by rw [Rat.abs_of_nonneg v0]; unfold big; grind)
  obtain rfl : rt i = r' := Option.some.inj ((S.hr i hi).symm.trans hr')
  have rl := rr.rel (by unfold tiny; grind)
  obtain ⟨y', hy', fy', yl, yu⟩ := spread_one hkb fb hb h1 hi rr.fin (by unfold ee at *; grind) (by unfold ee at *; grind)
  obtain rfl : y i = y' := Option.some.inj ((S.hy i hi).symm.trans hy')
  have y0 : 0 ≤ fval single (y i) := by unfold ee at *; grind
  have p1 := Rat.mul_le_mul_of_nonneg_left (show fval single (y i) ≤ v + 16 * (v * ee) by unfold ee at *; grind) (show 0 ≤ fval single (now i) by grind)
  have p2 := Rat.mul_le_mul_of_nonneg_left (show v - 16 * (v * ee) ≤ fval single (y i) by unfold ee at *; grind) (show 0 ≤ fval single (now i) by grind)
  -- now v is near the list: now (1 - 10 e) v <= x v = list <= now (1 + 14 e) v
  have q1 : fval single (now i) * v ≤ fval single (xs i) + 12 * (fval single (xs i) * ee) := by
    have n0 : 0 ≤ fval single (now i) * v := Rat.mul_nonneg (by grind) v0
    unfold ee at *; grind
  have q2 : fval single (xs i) - 15 * (fval single (xs i) * ee) ≤ fval single (now i) * v := by
    have n0 : 0 ≤ fval single (now i) * v := Rat.mul_nonneg (by grind) v0
    unfold ee at *; grind
  have n0 : 0 ≤ fval single (now i) * v := Rat.mul_nonneg (by grind) v0
  have t1 : fval single (now i) * fval single (y i) ≤ fval single (xs i) + 40 * (fval single (xs i) * ee) := by unfold ee at *; grind
  have t2 : fval single (xs i) - 40 * (fval single (xs i) * ee) ≤ fval single (now i) * fval single (y i) := by unfold ee at *; grind
  obtain ⟨z', hz', rz⟩ := mul32 fn fy' (by rw [Rat.abs_of_nonneg (by unfold ee at *; grind)]; unfold big; unfold ee at *; grind)
  obtain rfl : nxt i = z' := Option.some.inj ((S.hn i hi).symm.trans hz')
  have zl := rz.rel (by right; unfold tiny ee at *; grind)
  exact Go.Flt.abs_le (by unfold ee at *; grind) (by unfold ee at *; grind)
end Go.Flt
