/-
  The reference's sine and phasor of a number of turns.
-/
import Derived.Test.YtdcfailgakofeaaWk2
namespace Go.Proofs.Ytdcfailgakofeaa
open Go.RowKit Go.Flt

theorem of_int (n : Int) (src : TypeId) (hs : (Try.prog.underlying src).isSome = true) (w : World) : (convert src 33 (.int .i64 n)).run Try.prog w = .ok (.float .f64 (FloatKind.f64.nearest n)) w :=
  run_convert_int_float w src 33 .i64 .f64 n hs Try.underlying33
theorem u2 : (Try.prog.underlying 2).isSome = true := by rw [Try.underlying2]; rfl
theorem u3 : (Try.prog.underlying 3).isSome = true := by rw [Try.underlying3]; rfl
theorem to_int {t : Nat} {n : Int} (h : floatToIntVal .f64 t .i64 = some n) (w : World) : (convert 33 2 (.float .f64 t)).run Try.prog w = .ok (.int .i64 n) w :=
  run_convert_float_int w 33 2 .f64 .i64 t n u33 Try.underlying2 h

theorem kwrap : ∀ k : Nat, k ≤ 7 → wrap64 (2 * ((k : Int) + 1) * (2 * ((k : Int) + 1) + 1)) = 2 * ((k + 1 : Nat) : Int) * (2 * ((k + 1 : Nat) : Int) + 1) := by decide +kernel
theorem kden (j : Nat) (h : j ≤ 8) : FloatKind.f64.nearest (2 * ((8 - j : Nat) : Int) * (2 * ((8 - j : Nat) : Int) + 1)) = den j := by
  unfold den
  congr 1
  have : ((8 - j : Nat) : Int) = 8 - (j : Int) := by omega
  rw [this]

set_option maxHeartbeats 1600000 in
theorem sine_spec (t r : Nat) (w : World) (ht : Tame t) (h : sineOf t = some r) : Calls Try.prog 115 #[.float .f64 t] w fun e w' => e = .returned (.float .f64 r) ∧ w = w' := by
  unfold sineOf sineRest at h
  obtain ⟨f, hf, h⟩ := Option.bind_eq_some_iff.1 h
  obtain ⟨f1, hf1, h⟩ := Option.bind_eq_some_iff.1 h
  obtain ⟨f2, hf2, h⟩ := Option.bind_eq_some_iff.1 h
  obtain ⟨z, hz, h⟩ := Option.bind_eq_some_iff.1 h
  obtain ⟨u, hu, h⟩ := Option.bind_eq_some_iff.1 h
  obtain ⟨p, hp, h⟩ := Option.bind_eq_some_iff.1 h
  obtain ⟨r0, hr0, h⟩ := Option.bind_eq_some_iff.1 h
  obtain ⟨z0, hz0, hz1⟩ := ht.self
  unfold eql at hz1
  have hz2 : (FloatKind.f64.format.order z0 0 != some .eq) = false := by
    rw [bne_eq_false_iff_eq]; exact beq_iff_eq.1 hz1
  have c0 := ar hz0 33
  have c1 := ht.low
  unfold geq at c1
  have c2 : (FloatKind.f64.format.order t 14064741636278059008 == some .lt || FloatKind.f64.format.order t 14064741636278059008 == some .eq) = false := ht.high
  obtain ⟨n, hn, hnw⟩ := ht.whole
  have c3 := to_int hn
  have c4 := of_int n 2 u2
  rw [hnw] at c4
  have c4' := of_int
  unfold partOf at hf
  obtain ⟨g, hg, hf⟩ := Option.bind_eq_some_iff.1 hf
  have c5 := ar hg 33
  have hneg : ∀ (x : Nat) (w : World), (Op.unary .neg (.float .f64 x)).run Try.prog w = .ok (.float .f64 (opp64 x)) w := fun _ _ => rfl
  have a3 := ar hz 33
  have a4 := ar hu 33
  have a5 := ar hr0 33
  have HP := Lib.hid hp
  clear hz hu hr0 hp hz0 hz1 hn hnw hg
  cases hs : lss .f64 g 0
  all_goals
    rw [hs] at hf
    simp only [if_true, Bool.false_eq_true, if_false] at hf
    unfold lss at hs
    first
      | (have c6 := ar hf 33; clear hf)
      | (simp only [Option.some.injEq] at hf; have hf := hf.symm; subst hf)
    cases he : geq .f64 f half64
    all_goals
      rw [he] at hf1 h
      simp only [if_true, Bool.false_eq_true, if_false] at hf1 h
      unfold geq at he
      simp only [Option.some.injEq] at h
      subst h
      cases hl : gtr .f64 f1 quarter64
      all_goals
        rw [hl] at hf2
        simp only [if_true, Bool.false_eq_true, if_false] at hf2
        unfold gtr at hl
        first
          | (have a1 := ar hf1 33; clear hf1)
          | (simp only [Option.some.injEq] at hf1; subst hf1)
        first
          | (have a2 := ar hf2 33; clear hf2)
          | (simp only [Option.some.injEq] at hf2; subst hf2)
        go_enter Try.func115, Try.ntmps115
        go_wp2
        go_loopg [7, 8] 8 (fun n pp kk wr => ∃ j q : Nat, j ≤ 8 ∧ n = 8 - j ∧ kk = .int .i64 ((8 - j : Nat) : Int) ∧ pp = .float .f64 q ∧ Hid (pol u j = some q) ∧ wr = w)
        case atStart => exact ⟨0, one64, by omega, rfl, rfl, rfl, rfl, rfl⟩
        case round =>
          obtain ⟨j, q, hj, hgk, rfl, rfl, hq, rfl⟩ := hrel
          have HK := Lib.hid (kden j hj)
          by_cases hlt : j < 8
          · obtain ⟨q2, hq2⟩ := pol_some HP.out (8 - (j + 1)) (by omega)
            rw [show 8 - (8 - (j + 1)) = j + 1 by omega, pol, hq.out, Option.bind_some] at hq2
            have HQ2 := hq2
            unfold polStep at hq2
            obtain ⟨m, hm, hq2⟩ := Option.bind_eq_some_iff.1 hq2
            obtain ⟨d, hd, hq2⟩ := Option.bind_eq_some_iff.1 hq2
            have b1 := ar hm 33
            have b5 := ar hd 33
            have b6 := ar hq2 33
            have HX := Lib.hid (show pol u (j + 1) = some q2 by rw [pol, hq.out, Option.bind_some]; exact HQ2)
            obtain ⟨k, hk⟩ : ∃ k, k + 1 = 8 - j := ⟨7 - j, by omega⟩
            have HKK := Lib.hid hk
            rw [← hk] at HK
            rw [← hk]
            have hk8 : k + 1 ≤ 8 := by omega
            have hden : FloatKind.f64.nearest (wrap64 (2 * ((k : Int) + 1) * (2 * ((k : Int) + 1) + 1))) = den j := by
              rw [kwrap k (by omega)]; exact HK.out
            have HJ := Lib.hid (show j < 8 by omega)
            have HG := Lib.hid hgk
            clear hm hd hq2 HQ2 hk hgk hj hlt
            go_wp2
            go_roundg (8 - (j + 1))
            case rel => exact ⟨j + 1, q2, by have := HJ.out; omega, rfl, by rw [show 8 - (j + 1) = k by have := HKK.out; omega], rfl, HX, rfl⟩
            case measure => have := HG.out; have := HJ.out; omega
          · obtain rfl : j = 8 := by omega
            obtain rfl : p = q := Option.some.inj (HP.out.symm.trans hq.out)
            go_wp2
            go_ret
            exact ⟨rfl, rfl⟩

theorem narrow_spec (x r : Nat) (w : World) (h : floatToFloatBits .f64 x .f32 = some r) : Calls Try.prog 93 #[.float .f64 x] w fun e w' => e = .returned (.float .f32 r) ∧ w = w' := by
  have b3 := cv (src := 33) (dst := 27) u33 Try.underlying27 h
  go_enter Try.func93, Try.ntmps93
  go_wp2
  go_ret
  exact ⟨rfl, rfl⟩

set_option maxHeartbeats 3200000 in
theorem phasor_spec (t a b : Nat) (w : World) (ht : Tame t) (h : phasor t = some (a, b)) : Calls Try.prog 100 #[.float .f64 t] w fun e w' => e = .returned (.complex .f32 a b) ∧ w = w' := by
  obtain ⟨f0, f, q, d, c, s, x, y, h1, h2, ff, h3, fd, h4, h5, h6, ha, hb⟩ := phasor_way ht h
  obtain ⟨z0, hz0, hz1⟩ := ht.self
  unfold eql at hz1
  have hz2 : (FloatKind.f64.format.order z0 0 != some .eq) = false := by
    rw [bne_eq_false_iff_eq]; exact beq_iff_eq.1 hz1
  have c0 := ar hz0 33
  have c1 := ht.low
  unfold geq at c1
  have c2 : (FloatKind.f64.format.order t 14064741636278059008 == some .lt || FloatKind.f64.format.order t 14064741636278059008 == some .eq) = false := ht.high
  obtain ⟨n, hn, hnw⟩ := ht.whole
  have c3 := to_int hn
  have c4 := of_int n 2 u2
  rw [hnw] at c4
  unfold partOf at h1
  obtain ⟨g0, hg0, h1⟩ := Option.bind_eq_some_iff.1 h1
  have c5 := ar hg0 33
  have HS1 := Lib.hid (fun w => sine_spec d c w fd h4)
  have HS2 := Lib.hid (fun w => sine_spec f s w ff h5)
  have HA := Lib.hid (fun w => narrow_spec x a w ha)
  have HB := Lib.hid (fun w => narrow_spec y b w hb)
  have b2 := ar h3 33
  have HQ := Lib.hid h2
  have H6 := Lib.hid h6
  clear hz0 hz1 h2 h3 h4 h5 h6 ha hb h hn hnw hg0
  cases hs : lss .f64 g0 0
  all_goals
    rw [hs] at h1
    simp only [if_true, Bool.false_eq_true, if_false] at h1
    unfold lss at hs
    first
      | (have c6 := ar h1 33; clear h1)
      | (simp only [Option.some.injEq] at h1; have h1 := h1.symm; subst h1)
    go_enter Try.func100, Try.ntmps100
    go_wp2
    go_loopg [3, 4] 6 (fun n ff qq wr => ∃ g k : Nat, ff = .float .f64 g ∧ qq = .int .i64 k ∧ Hid (quarters n g k = some (f, q)) ∧ k + n = 6 ∧ wr = w)
    case atStart => exact ⟨f0, 0, rfl, rfl, HQ.out, rfl, rfl⟩
    case round =>
      obtain ⟨g, k, rfl, rfl, hk, hkn, rfl⟩ := hrel
      rcases gk with _ | n
      · have := hk.out; simp [quarters] at this
      · have hk2 := hk.out
        unfold quarters at hk2
        have hk6 : k ≤ 6 := by omega
        cases hge : geq .f64 g quarter64 with
        | true =>
          rw [hge] at hk2
          simp only [if_true] at hk2
          obtain ⟨g2, hg2, hk2⟩ := Option.bind_eq_some_iff.1 hk2
          have b5 := ar hg2 33
          have HK := Lib.hid hk2
          have hs : k + 1 + n = 6 := by omega
          have HS := Lib.hid hs
          unfold geq at hge
          clear hk2 hg2 hk hkn hs
          go_wp2
          go_roundg n
          case rel => exact ⟨g2, k + 1, rfl, by go_num, HK.out, HS.out, rfl⟩
          case measure => omega
        | false =>
          rw [hge] at hk2
          simp only [Bool.false_eq_true, if_false, Option.some.injEq, Prod.mk.injEq] at hk2
          obtain ⟨rfl, rfl⟩ := hk2
          unfold geq at hge
          clear hk hkn
          have h6 := H6.out
          unfold turned at h6
          by_cases q1 : k = 1
          · subst q1
            simp only [if_true] at h6
            obtain ⟨ms, hms, h6⟩ := Option.bind_eq_some_iff.1 h6
            simp only [Option.some.injEq, Prod.mk.injEq] at h6
            obtain ⟨rfl, rfl⟩ := h6
            have b5 := ar hms 33
            clear hms
            go_wp2_with fail
            refine (HS1.out _).mono ?_
            rintro e w' ⟨rfl, rfl⟩
            go_wp2_with fail
            refine (HS2.out _).mono ?_
            rintro e w' ⟨rfl, rfl⟩
            go_wp2_with fail
            first
              | (refine (HA.out _).mono ?_; rintro e w' ⟨rfl, rfl⟩)
            go_wp2_with fail
            refine (HB.out _).mono ?_
            rintro e w' ⟨rfl, rfl⟩
            go_wp2
            go_ret
            exact ⟨rfl, rfl⟩
          · rw [if_neg q1] at h6
            by_cases q2 : k = 2
            · subst q2
              clear q1
              simp only [if_true] at h6
              obtain ⟨mc, hmc, h6⟩ := Option.bind_eq_some_iff.1 h6
              obtain ⟨ms, hms, h6⟩ := Option.bind_eq_some_iff.1 h6
              simp only [Option.some.injEq, Prod.mk.injEq] at h6
              obtain ⟨rfl, rfl⟩ := h6
              have b5 := ar hmc 33
              have b6 := ar hms 33
              clear hmc hms
              go_wp2_with fail
              refine (HS1.out _).mono ?_
              rintro e w' ⟨rfl, rfl⟩
              go_wp2_with fail
              refine (HS2.out _).mono ?_
              rintro e w' ⟨rfl, rfl⟩
              go_wp2_with fail
              first
                | (refine (HA.out _).mono ?_; rintro e w' ⟨rfl, rfl⟩)
              go_wp2_with fail
              refine (HB.out _).mono ?_
              rintro e w' ⟨rfl, rfl⟩
              go_wp2
              go_ret
              exact ⟨rfl, rfl⟩
            · rw [if_neg q2] at h6
              by_cases q3 : k = 3
              · subst q3
                clear q1 q2
                simp only [if_true] at h6
                obtain ⟨mc, hmc, h6⟩ := Option.bind_eq_some_iff.1 h6
                simp only [Option.some.injEq, Prod.mk.injEq] at h6
                obtain ⟨rfl, rfl⟩ := h6
                have b5 := ar hmc 33
                clear hmc
                go_wp2_with fail
                refine (HS1.out _).mono ?_
                rintro e w' ⟨rfl, rfl⟩
                go_wp2_with fail
                refine (HS2.out _).mono ?_
                rintro e w' ⟨rfl, rfl⟩
                go_wp2_with fail
                first
                  | (refine (HA.out _).mono ?_; rintro e w' ⟨rfl, rfl⟩)
                go_wp2_with fail
                refine (HB.out _).mono ?_
                rintro e w' ⟨rfl, rfl⟩
                go_wp2
                go_ret
                exact ⟨rfl, rfl⟩
              · rw [if_neg q3] at h6
                simp only [Option.some.injEq, Prod.mk.injEq] at h6
                obtain ⟨rfl, rfl⟩ := h6
                have e1 : ((k : Int) == 1) = false := by rw [beq_eq_false_iff_ne]; omega
                have e2 : ((k : Int) == 2) = false := by rw [beq_eq_false_iff_ne]; omega
                have e3 : ((k : Int) == 3) = false := by rw [beq_eq_false_iff_ne]; omega
                clear q1 q2 q3
                go_wp2_with fail
                refine (HS1.out _).mono ?_
                rintro e w' ⟨rfl, rfl⟩
                go_wp2_with fail
                refine (HS2.out _).mono ?_
                rintro e w' ⟨rfl, rfl⟩
                go_wp2_with fail
                first
                  | (refine (HA.out _).mono ?_; rintro e w' ⟨rfl, rfl⟩)
                go_wp2_with fail
                refine (HB.out _).mono ?_
                rintro e w' ⟨rfl, rfl⟩
                go_wp2
                go_ret
                exact ⟨rfl, rfl⟩
end Go.Proofs.Ytdcfailgakofeaa
