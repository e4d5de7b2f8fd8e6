/-
  Quotients and square roots of finite floating words: near the exact ones.
-/
import Derived.Test.YtdcfailgakofeaaFltOps
namespace Go.Flt
open Ieee

/-- r is near v: by one part in '2 ^ F' of v, and a least number. -/
structure Nr (f : Format) (v : Rat) (r : Nat) : Prop where
  fin : fin f r
  up : fval f r ≤ v + (v.abs * P2 (-f.fractionBits) + P2 f.leastPlace)
  down : v ≤ fval f r + (v.abs * P2 (-f.fractionBits) + P2 f.leastPlace)
  pos : 0 ≤ v → 0 ≤ fval f r
  neg : v ≤ 0 → fval f r ≤ 0
  exact : Rep f v → fval f r = v

theorem Rnd.nr {f : Format} {v : Rat} {r : Nat} (h : Rnd f v r) : Nr f v r := by
  have h1 : 0 ≤ v.abs * P2 (-f.fractionBits) := Rat.mul_nonneg Rat.abs_nonneg (P2_nn _)
  have h2 := P2_nn f.leastPlace
  have := h.up
  have := h.down
  exact ⟨h.fin, by grind, by grind, h.pos, h.neg, h.exact⟩

theorem quot_mag (F m n : Nat) (hm : m ≠ 0) (hn : n ≠ 0) : 2 ^ (F + 1) ≤ (m <<< (F + 2 + n.log2 - m.log2)) / n := by
  rw [Nat.le_div_iff_mul_le (by omega), Nat.shiftLeft_eq]
  have h1 : n < 2 ^ (n.log2 + 1) := Nat.lt_log2_self
  have h2 : 2 ^ m.log2 ≤ m := Nat.log2_self_le hm
  have h3 : 2 ^ (F + 1) * n ≤ 2 ^ (F + 1) * 2 ^ (n.log2 + 1) := Nat.mul_le_mul_left _ (by omega)
  have h4 : 2 ^ (F + 1) * 2 ^ (n.log2 + 1) = 2 ^ (F + 2 + n.log2) := by rw [← Nat.pow_add]; congr 1; omega
  have h5 : 2 ^ m.log2 * 2 ^ (F + 2 + n.log2 - m.log2) ≤ m * 2 ^ (F + 2 + n.log2 - m.log2) := Nat.mul_le_mul_right _ h2
  have h6 : 2 ^ (F + 2 + n.log2) ≤ 2 ^ m.log2 * 2 ^ (F + 2 + n.log2 - m.log2) := by
    rw [← Nat.pow_add]; exact Nat.pow_le_pow_right (by decide) (by omega)
  omega

/-- The quotient of magnitudes: V n = m: q, with a digit that tells whether anything is left, is near V. -/
theorem quot_near (F m n : Nat) (i j : Int) (hn : n ≠ 0) (V : Rat) (hV : V * ((n : Rat) * P2 j) = (m : Rat) * P2 i) (more : Nat) (hmore : more = F + 2 + n.log2 - m.log2)
    (D R : Nat) (hD : D = (m <<< more) / n) (hR : R = (m <<< more) % n) (q : Rat) (hq : q = ((2 * D + (R != 0).toNat : Nat) : Rat) * P2 (i - j - more - 1)) :
    0 ≤ V ∧ q ≤ V + V * P2 (-(F + 2 : Nat)) ∧ V ≤ q + V * P2 (-(F + 2 : Nat)) ∧ (R = 0 → q = V) ∧ (∀ (c : Nat) (e : Int), V = (c : Rat) * P2 e → c < 2 ^ (F + 1) → R = 0) := by
  have hn0 : (0 : Rat) < (n : Rat) := by exact_mod_cast Nat.pos_of_ne_zero hn
  generalize ha : i - j - more = a at *
  have hdm : n * D + R = m <<< more := by rw [hD, hR]; exact Nat.div_add_mod _ _
  have hRn : R < n := by rw [hR]; exact Nat.mod_lt _ (by omega)
  have hVn : V * (n : Rat) = ((n * D + R : Nat) : Rat) * P2 a := by
    have e1 : (m : Rat) * P2 i = ((n * D + R : Nat) : Rat) * P2 a * P2 j := by
      rw [hdm, Rat.mul_assoc, ← P2_add, shift_val]; congr 2; omega
    rw [e1] at hV
    have hp := P2_pos j
    have h3 := Rat.le_of_mul_le_mul_right (a := V * (n : Rat)) (b := ((n * D + R : Nat) : Rat) * P2 a) (by grind) hp
    have h4 := Rat.le_of_mul_le_mul_right (a := ((n * D + R : Nat) : Rat) * P2 a) (b := V * (n : Rat)) (by grind) hp
    grind
  have hV0 : 0 ≤ V := by
    have h1 : 0 ≤ ((n * D + R : Nat) : Rat) * P2 a := nn_mul _ _
    rw [← hVn] at h1
    exact Rat.le_of_mul_le_mul_right (c := (n : Rat)) (by grind) hn0
  have hhalf := P2_half a
  have hpa := P2_pos a
  by_cases hm : m = 0
  · subst hm
    have hd0 : D = 0 := by rw [hD]; simp
    have hr0 : R = 0 := by rw [hR]; simp
    subst hd0 hr0
    have hV00 : V = 0 := by
      have : V * (n : Rat) = 0 := by rw [hVn]; simp
      rcases Rat.mul_eq_zero.1 this with h | h
      · exact h
      · grind
    subst hV00
    have : q = 0 := by rw [hq]; simp
    subst this
    exact ⟨Rat.le_refl, by grind, by grind, fun _ => rfl, fun _ _ _ _ => rfl⟩
  · have hDbig : 2 ^ (F + 1) ≤ D := by rw [hD, hmore]; exact quot_mag F m n hm hn
    -- V ≥ D 2^a
    have hVD : (D : Rat) * P2 a ≤ V := by
      refine Rat.le_of_mul_le_mul_right (c := (n : Rat)) ?_ hn0
      rw [hVn, Rat.natCast_add, Rat.natCast_mul]
      have : 0 ≤ (R : Rat) * P2 a := nn_mul _ _
      grind
    have hsm : P2 (a - 1) ≤ V * P2 (-(F + 2 : Nat)) := by
      have h1 : ((2 ^ (F + 1) : Nat) : Rat) * P2 a ≤ (D : Rat) * P2 a := Rat.mul_le_mul_of_nonneg_right (by exact_mod_cast hDbig) (P2_nn a)
      have h2 : ((2 ^ (F + 1) : Nat) : Rat) * P2 a ≤ V := Rat.le_trans h1 hVD
      have h3 := Rat.mul_le_mul_of_nonneg_right h2 (P2_nn (-(F + 2 : Nat)))
      have h4 : ((2 ^ (F + 1) : Nat) : Rat) * P2 a * P2 (-(F + 2 : Nat)) = P2 (a - 1) := by
        rw [← P2_nat, ← P2_add, ← P2_add]; congr 1; omega
      rw [h4] at h3
      exact h3
    have hqv : q = (D : Rat) * P2 a + (((R != 0).toNat : Nat) : Rat) * P2 (a - 1) := by
      rw [hq, Rat.natCast_add, Rat.natCast_mul, ← hhalf]
      have : ((2 : Nat) : Rat) = 2 := rfl
      rw [this]; grind
    have hclose : (R = 0 → q = V) ∧ q ≤ V + P2 (a - 1) ∧ V ≤ q + P2 (a - 1) := by
      by_cases hR0 : R = 0
      · have : q = V := by
          have h1 : q * (n : Rat) = V * (n : Rat) := by
            rw [hVn, hqv, hR0]; simp; grind
          have h3 := Rat.le_of_mul_le_mul_right (a := q) (b := V) (by grind) hn0
          have h4 := Rat.le_of_mul_le_mul_right (a := V) (b := q) (by grind) hn0
          grind
        have := P2_pos (a - 1)
        exact ⟨fun _ => by assumption, by grind, by grind⟩
      · have hst : (R != 0).toNat = 1 := by simp [hR0]
        rw [hst] at hqv
        have hRr : (R : Rat) < (n : Rat) := by exact_mod_cast hRn
        have hR1 : (0 : Rat) ≤ (R : Rat) := by exact_mod_cast Nat.zero_le _
        have h1 : ((1 : Nat) : Rat) = 1 := rfl
        rw [h1] at hqv
        have hp1 := P2_pos (a - 1)
        have m1 : 0 ≤ (R : Rat) * P2 (a - 1) := nn_mul _ _
        have m2 : (R : Rat) * P2 (a - 1) ≤ (n : Rat) * P2 (a - 1) := Rat.mul_le_mul_of_nonneg_right (Rat.le_of_lt hRr) (P2_nn _)
        have hVn2 : V * (n : Rat) = (n : Rat) * (D : Rat) * P2 a + 2 * ((R : Rat) * P2 (a - 1)) := by
          rw [hVn, Rat.natCast_add, Rat.natCast_mul, Rat.add_mul, ← hhalf]; grind
        refine ⟨fun h => absurd h hR0, ?_, ?_⟩
        · refine Rat.le_of_mul_le_mul_right (c := (n : Rat)) ?_ hn0
          rw [Rat.add_mul, hVn2, hqv]; grind
        · refine Rat.le_of_mul_le_mul_right (c := (n : Rat)) ?_ hn0
          rw [hVn2, hqv]; grind
    refine ⟨hV0, by grind, by grind, hclose.1, fun c e hc hlt => ?_⟩
    -- V = c 2^e with c below 2^(F+1): nothing is left
    have hae : a < e := by
      have h1 : (D : Rat) * P2 a ≤ (c : Rat) * P2 e := by rw [← hc]; exact hVD
      have h2 : (c : Rat) * P2 e < ((2 ^ (F + 1) : Nat) : Rat) * P2 e := Rat.mul_lt_mul_of_pos_right (by exact_mod_cast hlt) (P2_pos e)
      have h3 : ((2 ^ (F + 1) : Nat) : Rat) * P2 a ≤ (D : Rat) * P2 a := Rat.mul_le_mul_of_nonneg_right (by exact_mod_cast hDbig) (P2_nn a)
      have h4 : ((2 ^ (F + 1) : Nat) : Rat) * P2 a < ((2 ^ (F + 1) : Nat) : Rat) * P2 e := by grind
      have h5 := Rat.lt_of_mul_lt_mul_left h4 (by exact_mod_cast Nat.zero_le _)
      exact P2_lt h5
    have hi : n * D + R = n * (c * 2 ^ (e - a).toNat) := by
      have h1 : ((n * D + R : Nat) : Rat) * P2 a = ((n * (c * 2 ^ (e - a).toNat) : Nat) : Rat) * P2 a := by
        rw [← hVn, hc, Rat.natCast_mul, Rat.natCast_mul, ← P2_nat, Rat.mul_assoc, Rat.mul_assoc, Rat.mul_assoc, ← P2_add]
        have : ((e - a).toNat : Int) + a = e := by omega
        rw [this]; grind
      have h3 := Rat.le_of_mul_le_mul_right (a := ((n * D + R : Nat) : Rat)) (b := ((n * (c * 2 ^ (e - a).toNat) : Nat) : Rat)) (by grind) hpa
      have h4 := Rat.le_of_mul_le_mul_right (a := ((n * (c * 2 ^ (e - a).toNat) : Nat) : Rat)) (b := ((n * D + R : Nat) : Rat)) (by grind) hpa
      have h5 : ((n * D + R : Nat) : Rat) = ((n * (c * 2 ^ (e - a).toNat) : Nat) : Rat) := by grind
      exact_mod_cast h5
    have : (n * D + R) % n = 0 := by rw [hi]; exact Nat.mul_mod_right _ _
    rw [Nat.mul_add_mod, Nat.mod_eq_of_lt hRn] at this
    exact this

theorem val_sign (s : Bool) (m : Nat) (e : Int) : Datum.val (.number s m e) = (if s then (-1 : Rat) else 1) * ((m : Rat) * P2 e) := by
  unfold Datum.val; cases s <;> simp <;> grind

theorem comb (σ r q V A B C L : Rat) (hσ : σ = 1 ∨ σ = -1) (up : 2 * r ≤ 2 * (σ * q) + (B + L)) (dn : 2 * (σ * q) ≤ 2 * r + (B + L)) (q1 : q ≤ V + C) (q2 : V ≤ q + C)
    (hC : 4 * C = A) (hB : B ≤ A + A * (1 / 4)) (hA : 0 ≤ A) (hL : 0 ≤ L) : r ≤ σ * V + (A + L) ∧ σ * V ≤ r + (A + L) := by
  rcases hσ with rfl | rfl <;> constructor <;> grind

theorem div_nr (f : Format) (hE : 2 ≤ f.exponentBits) {x y : Nat} (hx : fin f x) (hy : fin f y) (hy0 : fval f y ≠ 0) (v : Rat) (hv : v * fval f y = fval f x) (hb : v.abs ≤ P2 (top f - 1)) :
    ∃ r, f.div x y = some r ∧ Nr f v r := by
  obtain ⟨s, m, i, e1, _⟩ := fin_read hx
  obtain ⟨t, n, j, e2, _⟩ := fin_read hy
  unfold fval at hv hy0
  rw [e1, e2] at hv
  rw [e2] at hy0
  have hn : n ≠ 0 := by
    rintro rfl
    apply hy0
    unfold Datum.val
    simp
  unfold Format.div
  rw [e1, e2]
  simp only [Datum.quotient]
  rw [if_neg hn]
  simp only [Option.map_some]
  generalize hmore : f.fractionBits + 2 + n.log2 - m.log2 = more
  generalize hq : ((2 * (m <<< more / n) + (m <<< more % n != 0).toNat : Nat) : Rat) * P2 (i - j - more - 1) = q
  -- the magnitude of v
  have hV : v.abs * ((n : Rat) * P2 j) = (m : Rat) * P2 i := by
    have h1 : (v * Datum.val (.number t n j)).abs = (m : Rat) * P2 i := by rw [hv, abs_number]
    have h0 := nn_mul n j
    rw [val_sign] at h1
    rw [← h1]
    cases t
    · simp only [Bool.false_eq_true, if_false]
      rcases (Rat.le_total (a := 0) (b := v)) with hv0 | hv0
      · rw [Rat.abs_of_nonneg hv0, Rat.abs_of_nonneg (by have := Rat.mul_nonneg hv0 h0; grind)]; grind
      · rw [Rat.abs_of_nonpos hv0, Rat.abs_of_nonpos (by have := Rat.mul_nonneg (show 0 ≤ -v by grind) h0; grind)]; grind
    · simp only [if_true]
      rcases (Rat.le_total (a := 0) (b := v)) with hv0 | hv0
      · rw [Rat.abs_of_nonneg hv0, Rat.abs_of_nonpos (by have := Rat.mul_nonneg hv0 h0; grind)]; grind
      · rw [Rat.abs_of_nonpos hv0, Rat.abs_of_nonneg (by have := Rat.mul_nonneg (show 0 ≤ -v by grind) h0; grind)]; grind
  obtain ⟨hV0, q1, q2, q3, q4⟩ := quot_near f.fractionBits m n i j hn v.abs hV more hmore.symm _ _ rfl rfl q hq.symm
  have hq0 : 0 ≤ q := by rw [← hq]; exact nn_mul _ _
  -- the sign
  have hsgn : v = (if (s ^^ t) then (-1 : Rat) else 1) * v.abs := by
    by_cases hm : m = 0
    · have : v.abs = 0 := by
        have h1 : v.abs * ((n : Rat) * P2 j) = 0 := by rw [hV, hm]; simp
        rcases Rat.mul_eq_zero.1 h1 with h | h
        · exact h
        · rcases Rat.mul_eq_zero.1 h with h | h
          · exact absurd (by exact_mod_cast h) hn
          · have := P2_pos j; grind
      rw [Rat.abs_eq_zero_iff.1 this]
      have : (0 : Rat).abs = 0 := rfl
      rw [this]; grind
    · have hmp : 0 < (m : Rat) * P2 i := Rat.mul_pos (by exact_mod_cast Nat.pos_of_ne_zero hm) (P2_pos _)
      have hnp : 0 < (n : Rat) * P2 j := Rat.mul_pos (by exact_mod_cast Nat.pos_of_ne_zero hn) (P2_pos _)
      rw [val_sign, val_sign] at hv
      have key : ∀ σ : Rat, (σ = 1 ∨ σ = -1) → 0 < σ * v → v = σ * v.abs := by
        rintro σ (rfl | rfl) hh
        · rw [Rat.abs_of_nonneg (by grind)]; grind
        · rw [Rat.abs_of_nonpos (by grind)]; grind
      have pos : ∀ z : Rat, 0 < z * ((n : Rat) * P2 j) → 0 < z := by
        intro z hz
        rcases (Rat.le_total (a := z) (b := 0)) with h | h
        · have := Rat.mul_nonneg (show 0 ≤ -z by grind) (Rat.le_of_lt hnp)
          grind
        · by_cases h0 : z = 0
          · rw [h0] at hz; grind
          · grind
      cases s <;> cases t <;> simp only [Bool.xor_false, Bool.xor_true, Bool.false_xor, Bool.true_xor, Bool.not_true, Bool.not_false, Bool.false_eq_true, if_true, if_false] at hv ⊢
      · exact key 1 (Or.inl rfl) (pos _ (by grind))
      · exact key (-1) (Or.inr rfl) (pos _ (by grind))
      · exact key (-1) (Or.inr rfl) (pos _ (by grind))
      · exact key 1 (Or.inl rfl) (pos _ (by grind))
  have hqval : Datum.val (.number (s ^^ t) (2 * (m <<< more / n) + (m <<< more % n != 0).toNat) (i - j - more - 1)) = (if (s ^^ t) then (-1 : Rat) else 1) * q := by
    rw [val_sign, hq]
  have hqabs : (Datum.val (.number (s ^^ t) (2 * (m <<< more / n) + (m <<< more % n != 0).toNat) (i - j - more - 1))).abs = q := by rw [abs_number, hq]
  have hsmall : P2 (-(f.fractionBits + 2 : Nat)) ≤ P2 (-2) := P2_mono (by omega)
  have hF2 : 4 * P2 (-(f.fractionBits + 2 : Nat)) = P2 (-f.fractionBits) := by
    have : (4 : Rat) = P2 2 := rfl
    rw [this, ← P2_add]; congr 1; omega
  have h14 : P2 (-2) = 1 / 4 := by decide +kernel
  have hqle : q ≤ v.abs + v.abs * (1 / 4) := by
    have := Rat.mul_le_mul_of_nonneg_left hsmall hV0
    rw [h14] at this
    grind
  have htop2 := P2_half (top f)
  have hR := nearest_rnd f hE (s ^^ t) _ _ (by
    rw [hqabs]
    have := P2_pos (top f - 1)
    grind)
  rw [hqval] at hR
  have habs2 : ((if (s ^^ t) then (-1 : Rat) else 1) * q).abs = q := by rw [← hqval]; exact hqabs
  have hup := hR.up
  have hdn := hR.down
  rw [habs2] at hup hdn
  have hqF : q * P2 (-f.fractionBits) ≤ v.abs * P2 (-f.fractionBits) + v.abs * P2 (-f.fractionBits) * (1 / 4) := by
    have := Rat.mul_le_mul_of_nonneg_right hqle (P2_nn (-f.fractionBits))
    grind
  have hw : 4 * (v.abs * P2 (-(f.fractionBits + 2 : Nat))) = v.abs * P2 (-f.fractionBits) := by rw [← hF2]; grind
  have hvF : 0 ≤ v.abs * P2 (-f.fractionBits) := Rat.mul_nonneg hV0 (P2_nn _)
  have hl := P2_nn f.leastPlace
  generalize hσ : (if (s ^^ t) then (-1 : Rat) else 1) = σ at *
  have hσ1 : σ = 1 ∨ σ = -1 := by rw [← hσ]; split <;> simp
  have hcomb := comb σ _ q v.abs _ _ _ _ hσ1 hup hdn q1 q2 hw hqF hvF hl
  rw [← hsgn] at hcomb
  refine ⟨_, rfl, ⟨hR.fin, hcomb.1, hcomb.2, ?_, ?_, ?_⟩⟩
  · intro h
    refine hR.pos ?_
    rcases hσ1 with rfl | rfl
    · grind
    · -- v = -|v|, 0 ≤ v: v = 0, so q = 0
      have : v.abs = 0 := by grind
      have : q ≤ 0 := by rw [this] at q1; grind
      grind
  · intro h
    refine hR.neg ?_
    rcases hσ1 with rfl | rfl
    · have : v.abs = 0 := by grind
      have : q ≤ 0 := by rw [this] at q1; grind
      grind
    · grind
  · rintro ⟨c, e, h1, h2, h3⟩
    have hz := q3 (q4 c e h1 h2)
    have hv2 : σ * q = v := by rw [hz]; exact hsgn.symm
    rw [hv2] at hR
    exact hR.exact ⟨c, e, h1, h2, h3⟩
end Go.Flt
