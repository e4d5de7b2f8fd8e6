/-
  The program's phasor of a number of turns.
-/
import Derived.Test.YtdcfailgakofeaaWk1
import Derived.Test.YtdcfailgakofeaaPhGood
import Derived.Laws.BitsAllLaws
namespace Go.Proofs.Ytdcfailgakofeaa
open Go.RowKit Go.Flt

theorem andNot_top (t : Nat) (h : t < 18446744073709551616) : (bits .andNot .u64 (t : Int) 9223372036854775808).toNat = t % 9223372036854775808 := by
  rw [show (9223372036854775808 : Int) = ((9223372036854775808 : Nat) : Int) from rfl, u64_andNot_nat t _ h (by decide)]
  simp only [Int.toNat_natCast]
  exact Nat.and_two_pow_sub_one_eq_mod t 63

theorem huge_any (t : Nat) (w : World) (ht : Tame t) : Calls Try.prog 90 #[.float .f64 t] w fun e w' => e = .returned (.bool false) ∧ w = w' := by
  have h1 := run_frombits64
  have h2 := run_bits64
  have h3 := ht.small
  rw [← andNot_top t ht.lt] at h3
  unfold geq at h3
  go_enter Try.func90, Try.ntmps90
  go_wp2
  go_ret
  exact ⟨rfl, rfl⟩

/-- 'float32' of a not-a-number draws which one. -/
def drawnNan (w : World) : Nat := Question.cut (.nanConv .f32 9221120237041090561) (w.tape w.drawn (.nanConv .f32 9221120237041090561))
theorem run_nan32 (w : World) : (convert 33 27 (.float .f64 9221120237041090561)).run Try.prog w = .ok (.float .f32 (drawnNan w)) w.drew := by kernel_rfl

theorem nan_any (w : World) : Calls Try.prog 89 #[] w fun e w' => e = .returned (.float .f64 9221120237041090561) ∧ w = w' := by
  have h1 := run_frombits64
  go_enter Try.func89, Try.ntmps89
  go_wp2
  go_ret
  exact ⟨rfl, rfl⟩

theorem cv {s k : FloatKind} {src dst : TypeId} {b r : Nat} (hs : (Try.prog.underlying src).isSome = true) (hd : Try.prog.underlying dst = some (.float k)) (h : floatToFloatBits s b k = some r) :
    ∀ w, (convert src dst (.float s b)).run Try.prog w = .ok (.float k r) w := fun w => run_convert_float_float w src dst s k b r hs hd h
theorem u33 : (Try.prog.underlying 33).isSome = true := by rw [Try.underlying33]; rfl
theorem u27 : (Try.prog.underlying 27).isSome = true := by rw [Try.underlying27]; rfl

/-- The steps of the phasor's way. -/
theorem phasor_way {t a b : Nat} (ht : Tame t) (h : phasor t = some (a, b)) : ∃ f0 f q d c s x y, partOf t = some f0 ∧ quarters 6 f0 0 = some (f, q) ∧ Tame f ∧ floatBits .sub .f64 quarter64 f = some d ∧ Tame d ∧
    sineOf d = some c ∧ sineOf f = some s ∧ turned q c s = some (x, y) ∧ floatToFloatBits .f64 x .f32 = some a ∧ floatToFloatBits .f64 y .f32 = some b := by
  obtain ⟨f0, f, q, d, c, s, x, y, h1, h2, ff, h3, fd, h4, h5, h6, _⟩ := phasor_steps ht
  refine ⟨f0, f, q, d, c, s, x, y, h1, h2, ff, h3, fd, h4, h5, h6, ?_⟩
  unfold phasor narrowTwo at h
  rw [h1, Option.bind_some, h2, Option.bind_some] at h
  simp only [] at h
  rw [h3, Option.bind_some, h4, Option.bind_some, h5, Option.bind_some, h6, Option.bind_some] at h
  obtain ⟨a', ha, h⟩ := Option.bind_eq_some_iff.1 h
  obtain ⟨b', hb, h⟩ := Option.bind_eq_some_iff.1 h
  simp only [Option.some.injEq, Prod.mk.injEq] at h
  obtain ⟨rfl, rfl⟩ := h
  exact ⟨ha, hb⟩

theorem quarters_le : ∀ (n f q g k : Nat), quarters n f q = some (g, k) → k + 1 ≤ q + n
  | 0, _, _, _, _, h => by simp [quarters] at h
  | n + 1, f, q, g, k, h => by
    unfold quarters at h
    split at h
    · obtain ⟨a, _, h⟩ := Option.bind_eq_some_iff.1 h
      have := quarters_le n a (q + 1) g k h
      omega
    · simp only [Option.some.injEq, Prod.mk.injEq] at h
      omega

set_option maxHeartbeats 3200000 in
theorem phasor_any (t a b : Nat) (w : World) (ht : Tame t) (h : phasor t = some (a, b)) : Calls Try.prog 52 #[.float .f64 t] w fun e w' => e = .returned (.complex .f32 a b) ∧ w.drew = w' := by
  obtain ⟨f0, f, q, d, c, s, x, y, h1, h2, ff, h3, fd, h4, h5, h6, ha, hb⟩ := phasor_way ht h
  obtain ⟨z, hz, hz0⟩ := ht.self
  unfold eql at hz0
  have hz1 : (FloatKind.f64.format.order z 0 != some .eq) = false := by
    rw [bne_eq_false_iff_eq]; exact beq_iff_eq.1 hz0
  have b0 := ar hz 33
  have b1 := run_nan32
  have HN := Lib.hid nan_any
  have HH := Lib.hid (fun w => huge_any t w ht)
  have HP := Lib.hid (fun w => part_any t f0 w ht.1 h1)
  have HS1 := Lib.hid (fun w => sine_any d c w fd.1 h4)
  have HS2 := Lib.hid (fun w => sine_any f s w ff.1 h5)
  have b2 := ar h3 33
  have b3 := cv (src := 33) (dst := 27) u33 Try.underlying27 ha
  have b4 := cv (src := 33) (dst := 27) u33 Try.underlying27 hb
  have HQ := Lib.hid h2
  have H6 := Lib.hid h6
  clear hz hz0 h1 h2 h3 h4 h5 h6 ha hb h
  go_enter Try.func52, Try.ntmps52
  go_wp2_with fail
  refine (HN.out _).mono ?_
  rintro e w' ⟨rfl, rfl⟩
  go_wp2_with fail
  refine (HH.out _).mono ?_
  rintro e w' ⟨rfl, rfl⟩
  go_wp2_with fail
  refine (HP.out _).mono ?_
  rintro e w' ⟨rfl, rfl⟩
  go_wp2_with fail
  go_loopg [4, 5] 6 (fun n ff qq wr => ∃ g k : Nat, ff = .float .f64 g ∧ qq = .int .i64 k ∧ Hid (quarters n g k = some (f, q)) ∧ k + n = 6 ∧ wr = w.drew)
  case atStart => exact ⟨f0, 0, rfl, rfl, HQ.out, rfl, rfl⟩
  case round =>
    obtain ⟨g, k, rfl, rfl, hk, hkn, rfl⟩ := hrel
    rcases gk with _ | n
    · have := hk.out; simp [quarters] at this
    · have hk2 := hk.out
      unfold quarters at hk2
      have hk6 : k ≤ 6 := by omega
      cases hge : geq .f64 g quarter64 with
      | true =>
        rw [hge] at hk2
        simp only [if_true] at hk2
        obtain ⟨g2, hg2, hk2⟩ := Option.bind_eq_some_iff.1 hk2
        have b5 := ar hg2 33
        have HK := Lib.hid hk2
        have hs : k + 1 + n = 6 := by omega
        have HS := Lib.hid hs
        unfold geq at hge
        clear hk2 hg2 hk hkn hs
        go_wp2
        go_roundg n
        case rel => exact ⟨g2, k + 1, rfl, by go_num, HK.out, HS.out, rfl⟩
        case measure => omega
      | false =>
        rw [hge] at hk2
        simp only [Bool.false_eq_true, if_false, Option.some.injEq, Prod.mk.injEq] at hk2
        obtain ⟨rfl, rfl⟩ := hk2
        unfold geq at hge
        clear hk hkn
        have h6 := H6.out
        unfold turned at h6
        by_cases q1 : k = 1
        · subst q1
          simp only [if_true] at h6
          obtain ⟨ms, hms, h6⟩ := Option.bind_eq_some_iff.1 h6
          simp only [Option.some.injEq, Prod.mk.injEq] at h6
          obtain ⟨rfl, rfl⟩ := h6
          have b5 := ar hms 33
          clear hms
          go_wp2_with fail
          refine (HS1.out _).mono ?_
          rintro e w' ⟨rfl, rfl⟩
          go_wp2_with fail
          refine (HS2.out _).mono ?_
          rintro e w' ⟨rfl, rfl⟩
          go_wp2
          go_ret
          exact ⟨rfl, rfl⟩
        · rw [if_neg q1] at h6
          by_cases q2 : k = 2
          · subst q2
            clear q1
            simp only [if_true] at h6
            obtain ⟨mc, hmc, h6⟩ := Option.bind_eq_some_iff.1 h6
            obtain ⟨ms, hms, h6⟩ := Option.bind_eq_some_iff.1 h6
            simp only [Option.some.injEq, Prod.mk.injEq] at h6
            obtain ⟨rfl, rfl⟩ := h6
            have b5 := ar hmc 33
            have b6 := ar hms 33
            clear hmc hms
            go_wp2_with fail
            refine (HS1.out _).mono ?_
            rintro e w' ⟨rfl, rfl⟩
            go_wp2_with fail
            refine (HS2.out _).mono ?_
            rintro e w' ⟨rfl, rfl⟩
            go_wp2
            go_ret
            exact ⟨rfl, rfl⟩
          · rw [if_neg q2] at h6
            by_cases q3 : k = 3
            · subst q3
              clear q1 q2
              simp only [if_true] at h6
              obtain ⟨mc, hmc, h6⟩ := Option.bind_eq_some_iff.1 h6
              simp only [Option.some.injEq, Prod.mk.injEq] at h6
              obtain ⟨rfl, rfl⟩ := h6
              have b5 := ar hmc 33
              clear hmc
              go_wp2_with fail
              refine (HS1.out _).mono ?_
              rintro e w' ⟨rfl, rfl⟩
              go_wp2_with fail
              refine (HS2.out _).mono ?_
              rintro e w' ⟨rfl, rfl⟩
              go_wp2
              go_ret
              exact ⟨rfl, rfl⟩
            · rw [if_neg q3] at h6
              simp only [Option.some.injEq, Prod.mk.injEq] at h6
              obtain ⟨rfl, rfl⟩ := h6
              have e1 : ((k : Int) == 1) = false := by rw [beq_eq_false_iff_ne]; omega
              have e2 : ((k : Int) == 2) = false := by rw [beq_eq_false_iff_ne]; omega
              have e3 : ((k : Int) == 3) = false := by rw [beq_eq_false_iff_ne]; omega
              clear q1 q2 q3
              go_wp2_with fail
              refine (HS1.out _).mono ?_
              rintro e w' ⟨rfl, rfl⟩
              go_wp2_with fail
              refine (HS2.out _).mono ?_
              rintro e w' ⟨rfl, rfl⟩
              go_wp2
              go_ret
              exact ⟨rfl, rfl⟩
end Go.Proofs.Ytdcfailgakofeaa
