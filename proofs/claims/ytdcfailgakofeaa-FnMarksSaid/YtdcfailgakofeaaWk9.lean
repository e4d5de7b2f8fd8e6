/-
  The law's own comparison of numbers: equal words, or two not-a-numbers, are the same.
-/
import Derived.Test.YtdcfailgakofeaaWk8
import Derived.Test.YtdcfailgakofeaaAny
namespace Go.Proofs.Ytdcfailgakofeaa
open Go.RowKit Go.Flt

theorem order_self {f : Ieee.Format} {v : Nat} (h : ¬ isNan f v) : f.order v v = some .eq := by
  unfold isNan at h
  unfold Ieee.Format.order
  cases hv : f.read v with
  | number s m e =>
    simp only [Ieee.Datum.order]
    simp
  | infinity s => simp [Ieee.Datum.order]
  | nan s t => rw [hv] at h; exact absurd rfl h

/-- One divided by a word that equals zero. -/
theorem quo_zero {v : Nat} (h : Ieee.double.order v 0 = some .eq) : ∃ r, floatBits .quo .f64 one64 v = some r := by
  have h0 : Ieee.double.read 0 = .number false 0 (-1074) := by decide +kernel
  have h1 : Ieee.double.read one64 = .number false 4503599627370496 (-52) := by decide +kernel
  cases hv : Ieee.double.read v with
  | number s m e =>
    have : Ieee.double.div one64 v = ((Ieee.Datum.number false 4503599627370496 (-52)).quotient (Ieee.double.fractionBits + 2) (.number s m e)).map Ieee.double.write := by
      unfold Ieee.Format.div; rw [h1, hv]
    show ∃ r, Ieee.double.div one64 v = some r
    rw [this]
    simp only [Ieee.Datum.quotient]
    by_cases hm : m = 0
    · rw [if_pos hm, if_neg (by decide)]
      exact ⟨_, rfl⟩
    · rw [if_neg hm]
      exact ⟨_, rfl⟩
  | infinity s =>
    unfold Ieee.Format.order at h
    rw [hv, h0] at h
    cases s <;> simp [Ieee.Datum.order] at h
  | nan s t =>
    unfold Ieee.Format.order at h
    rw [hv, h0] at h
    simp [Ieee.Datum.order] at h

theorem same_one (v : Nat) (w : World) (h : ¬ isNan Ieee.double v) : Calls Try.prog 75 #[.float .f64 v, .float .f64 v] w (Quiet w (.bool true)) := by
  have ho := order_self h
  have e : FloatKind.f64.format = Ieee.double := rfl
  have h1 : (FloatKind.f64.format.order v v != some .eq) = false := by rw [e, ho]; rfl
  have h2 : (FloatKind.f64.format.order v v == some .eq) = true := by rw [e, ho]; rfl
  by_cases hz : Ieee.double.order v 0 = some .eq
  · obtain ⟨r, hr⟩ := quo_zero hz
    have h3 : (FloatKind.f64.format.order v 0 == some .eq) = true := by rw [e, hz]; rfl
    have a1 := ar hr 33
    clear h ho e hz hr
    go_enter Try.func75, Try.ntmps75
    go_wp2
    all_goals (go_ret; exact ⟨by simp, 0, rfl⟩)
  · have h3 : (FloatKind.f64.format.order v 0 == some .eq) = false := by rw [e, beq_eq_false_iff_ne]; exact hz
    clear h ho e hz
    go_enter Try.func75, Try.ntmps75
    go_wp2
    go_ret
    exact ⟨rfl, 0, rfl⟩

theorem same_nan (v u : Nat) (w : World) (hv : isNan Ieee.double v) (hu : isNan Ieee.double u) : Calls Try.prog 75 #[.float .f64 v, .float .f64 u] w (Quiet w (.bool true)) := by
  have e : FloatKind.f64.format = Ieee.double := rfl
  have h1 : (FloatKind.f64.format.order v v != some .eq) = true := by rw [e, (nan_order hv v).1]; rfl
  have h2 : (FloatKind.f64.format.order u u != some .eq) = true := by rw [e, (nan_order hu u).1]; rfl
  clear hv hu e
  go_enter Try.func75, Try.ntmps75
  go_wp2
  go_ret
  exact ⟨rfl, 0, rfl⟩

theorem sameC_one (a b : Nat) (w : World) (ha : ¬ isNan Ieee.double a) (hb : ¬ isNan Ieee.double b) : Calls Try.prog 74 #[.complex .f64 a b, .complex .f64 a b] w (Quiet w (.bool true)) := by
  have H1 := Lib.hid (fun w => same_one a w ha)
  have H2 := Lib.hid (fun w => same_one b w hb)
  go_enter Try.func74, Try.ntmps74
  go_wp2_with fail
  refine (H1.out _).mono ?_
  rintro e w1 ⟨rfl, n, rfl⟩
  go_wp2_with fail
  refine (H2.out _).mono ?_
  rintro e w1 ⟨rfl, m, rfl⟩
  go_wp2
  go_ret
  exact ⟨rfl, n + m, rfl⟩

theorem fin_not_nan {f : Ieee.Format} {x : Nat} (h : fin f x) : ¬ isNan f x := by
  intro hn
  obtain ⟨s, m, e, h1, _⟩ := fin_read h
  unfold isNan at hn; rw [h1] at hn; cases hn

set_option maxHeartbeats 1600000 in
set_option maxRecDepth 100000 in
theorem eqC_any (a1 a2 : Option Addr) (n c1 c2 : Nat) (re im : Nat → Nat) (w : World) (hn : n ≤ 1048576) (h1 : Row w a1 n fun i => .complex .f32 (re i) (im i)) (h2 : Row w a2 n fun i => .complex .f32 (re i) (im i)) (hf : ∀ i, i < n → fin Ieee.single (re i) ∧ fin Ieee.single (im i)) :
    Calls Try.prog 29 #[.slice a1 n c1, .slice a2 n c2] w (Quiet w (.bool true)) := by
  have H1 := Lib.hid h1
  have H2 := Lib.hid h2
  have HF := Lib.hid hf
  have hnot : ∀ (b : Bool) (w : World), (Op.unary .not (.bool b)).run Try.prog w = .ok (.bool (!b)) w := fun _ _ => rfl
  have hne : ((n : Int) != (n : Int)) = false := by simp
  clear h1 h2 hf
  go_enter Try.func29, Try.ntmps29
  go_wp2
  go_loopw [5] (fun i wr => ∃ k : Nat, k ≤ n ∧ i = .int .i64 k ∧ Hid (∃ nq, wr = w.drewN nq)) (fun i _ => n - (intOf i).toNat)
  case atStart => exact ⟨0, Nat.zero_le _, rfl, 0, rfl⟩
  case round =>
    obtain ⟨k, hk, rfl, hq⟩ := hrel
    by_cases hlt : k < n
    · obtain ⟨b1, o1, rfl, hc01⟩ := H1.out k hlt
      obtain ⟨b2, o2, rfl, hc02⟩ := H2.out k hlt
      have hc1 : wr.cell? ⟨b1, o1 + k, none⟩ = some (.complex .f32 (re k) (im k)) := by obtain ⟨nq, rfl⟩ := hq.out; exact hc01
      have hc2 : wr.cell? ⟨b2, o2 + k, none⟩ = some (.complex .f32 (re k) (im k)) := by obtain ⟨nq, rfl⟩ := hq.out; exact hc02
      clear hc01 hc02
      obtain ⟨f1, f2⟩ := HF.out k hlt
      obtain ⟨r, hr, fr, _⟩ := widen f1
      obtain ⟨s, hs, fs, _⟩ := widen f2
      have a1 : ∀ w, (convert 30 84 (.complex .f32 (re k) (im k))).run Try.prog w = .ok (.complex .f64 r s) w := fun w => run_convert_complex w 30 84 .f32 .f64 _ _ _ _ (by rw [Try.underlying30]; rfl) Try.underlying84 (by unfold cConvBits; rw [hr, hs]; rfl)
      have HS := Lib.hid (fun w => sameC_one r s w (fin_not_nan fr) (fin_not_nan fs))
      have hlk : (k : Int) < (n : Int) := by omega
      clear f1 f2 hr hs fr fs
      go_wp2_with fail
      go_quiet ((go_at_call 74; exact Calls.quiet_of (HS.out _)))
      go_wp2
      go_roundw
      case rel => exact ⟨k + 1, by omega, by go_num, by obtain ⟨m, rfl⟩ := hq.out; exact ⟨_, World.drewN_drewN _ _ _⟩⟩
      case measure => simp [intOf]; omega
    · go_wp2
      go_ret
      exact ⟨rfl, hq.out⟩
end Go.Proofs.Ytdcfailgakofeaa
