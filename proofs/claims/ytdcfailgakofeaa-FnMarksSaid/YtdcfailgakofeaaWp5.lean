/-
  Walks: the mean of phases; a number chosen by a byte; a scaled complex number.
-/
import Derived.Test.YtdcfailgakofeaaWp4
namespace Go.Proofs.Ytdcfailgakofeaa
open Go.RowKit Go.Flt

/-- The sum of the first i words. -/
def sumW (ws : Nat → Nat) : Nat → Option Nat
  | 0 => some 0
  | i + 1 => (sumW ws i).bind fun s => floatBits .add .f32 s (ws i)

theorem sumW_le {ws : Nat → Nat} {n r : Nat} (h : sumW ws n = some r) : ∀ i, i ≤ n → ∃ s, sumW ws i = some s := by
  induction n generalizing r with
  | zero => intro i hi; exact ⟨r, by rw [show i = 0 by omega]; exact h⟩
  | succ n ih =>
    intro i hi
    by_cases e : i = n + 1
    · exact ⟨r, by rw [e]; exact h⟩
    · unfold sumW at h
      obtain ⟨s, hs, _⟩ := Option.bind_eq_some_iff.1 h
      exact ih hs i (by omega)

set_option maxHeartbeats 800000 in
theorem plus_told {a b c d x y : Nat} (w : World) (h1 : floatBits .add .f32 a c = some x) (h2 : floatBits .add .f32 b d = some y) :
    Calls Try.prog 54 #[.complex .f32 a b, .complex .f32 c d] w (Still w (.complex .f32 x y)) := by
  have a1 := ar h1 27
  have a2 := ar h2 27
  clear h1 h2
  go_enter Try.func54, Try.ntmps54
  go_wp2
  go_ret
  exact ⟨rfl, rfl⟩

set_option maxHeartbeats 800000 in
theorem scaleSpec_told {a b c x y : Nat} (w : World) (h1 : floatBits .mul .f32 a c = some x) (h2 : floatBits .mul .f32 b c = some y) :
    Calls Try.prog 15 #[.complex .f32 a b, .float .f32 c] w (Still w (.complex .f32 x y)) := by
  have key : Calls Try.prog 57 #[.complex .f32 a b, .float .f32 c] w (Still w (.complex .f32 x y)) := by
    have a1 := ar h1 27
    have a2 := ar h2 27
    clear h1 h2
    go_enter Try.func57, Try.ntmps57
    go_wp2
    go_ret
    exact ⟨rfl, rfl⟩
  have K := Lib.hid key
  clear key h1 h2
  go_enter Try.func15, Try.ntmps15
  go_wp2_with fail
  refine K.out.mono ?_
  rintro e w1 ⟨rfl, rfl⟩
  go_wp2
  go_ret
  exact ⟨rfl, rfl⟩

theorem finC_fin {x y : Nat} (hx : fin Ieee.single x) (hy : fin Ieee.single y) : finC x y = true := by
  unfold finC; rw [fin_finB hx, fin_finB hy]; rfl

set_option maxHeartbeats 3200000 in
set_option maxRecDepth 100000 in
theorem mean_any (a : Option Addr) (n cap : Nat) (re im : Nat → Nat) (sr si mr mi : Nat) (w : World) (h1 : 1 ≤ n) (hn : n ≤ 128) (hr : Row w a n fun i => .complex .f32 (re i) (im i)) (hx : ∀ i, i < n → fin Ieee.single (re i) ∧ fin Ieee.single (im i))
    (hsr : sumW re n = some sr) (hsi : sumW im n = some si) (hmr : floatBits .quo .f32 sr (FloatKind.f32.nearest (n : Int)) = some mr) (hmi : floatBits .quo .f32 si (FloatKind.f32.nearest (n : Int)) = some mi) (fr : fin Ieee.single mr) (fi : fin Ieee.single mi) :
    Calls Try.prog 12 #[.slice a n cap] w (Soft w (.tuple #[.complex .f32 mr mi, .bool true])) := by
  have HP := Lib.hid (arePhases_any a n cap re im 1 w hn h1 hr (fun i hi => ⟨(hx i hi).1.1, (hx i hi).2.1⟩) (allC_fin hx))
  have HR := Lib.hid hr
  have HSR := Lib.hid hsr
  have HSI := Lib.hid hsi
  have HF := Lib.hid (fun w => isFiniteC_any mr mi w fr.1 fi.1)
  rw [finC_fin fr fi] at HF
  have hnot : ∀ (b : Bool) (w : World), (Op.unary .not (.bool b)).run Try.prog w = .ok (.bool (!b)) w := fun _ _ => rfl
  have q1 : ∀ w, (binOp .quo 27 (.float .f32 sr) (.float .f32 (floatOfInt .f32 (n : Int)))).run Try.prog w = .ok (.float .f32 mr) w := ar hmr 27
  have q2 : ∀ w, (binOp .quo 27 (.float .f32 si) (.float .f32 (floatOfInt .f32 (n : Int)))).run Try.prog w = .ok (.float .f32 mi) w := ar hmi 27
  clear hr hx hsr hsi hmr hmi fr fi
  go_enter Try.func12, Try.ntmps12
  go_wp2_with fail
  refine HP.out.mono ?_
  rintro e w1 ⟨rfl, hb1⟩
  have HB := Lib.hid hb1
  clear hb1 HP
  go_wp2
  go_loopw [4, 14] (fun al kk wr => ∃ (k x y : Nat), k ≤ n ∧ kk = .int .i64 k ∧ al = .complex .f32 x y ∧ Hid (sumW re k = some x ∧ sumW im k = some y) ∧ wr = w1) (fun _ kk _ => n - (intOf kk).toNat)
  case atStart => exact ⟨0, 0, 0, by omega, rfl, rfl, ⟨rfl, rfl⟩, rfl⟩
  case round =>
    obtain ⟨k, x, y, hk, rfl, rfl, hs, rfl⟩ := hrel
    by_cases hlt : k < n
    · obtain ⟨b, off, rfl, hc0⟩ := HR.out k hlt
      have hc := (HB.out.cell (p := ⟨b, off + k, none⟩) (World.block_lt_of_cell? w _ hc0)).trans hc0
      obtain ⟨x', hx'⟩ := sumW_le HSR.out (k + 1) (by omega)
      obtain ⟨y', hy'⟩ := sumW_le HSI.out (k + 1) (by omega)
      have ax : floatBits .add .f32 x (re k) = some x' := by
        have := hx'; unfold sumW at this; rw [hs.out.1] at this; exact this
      have ay : floatBits .add .f32 y (im k) = some y' := by
        have := hy'; unfold sumW at this; rw [hs.out.2] at this; exact this
      have P := Lib.hid (fun w => plus_told w ax ay)
      have HX := Lib.hid hx'
      have HY := Lib.hid hy'
      clear hc0 hx' hy' ax ay
      go_wp2_with fail
      refine (P.out _).mono ?_
      rintro e w3 ⟨rfl, rfl⟩
      go_wp2
      go_roundw
      case rel => exact ⟨k + 1, x', y', by omega, by go_num, rfl, ⟨HX.out, HY.out⟩, trivial⟩
      case measure => simp [intOf]; omega
    · obtain rfl : k = n := by omega
      obtain rfl : x = sr := Option.some.inj (hs.out.1.symm.trans HSR.out)
      obtain rfl : y = si := Option.some.inj (hs.out.2.symm.trans HSI.out)
      clear hs HSR HSI
      go_wp2_with fail
      refine (HF.out _).mono ?_
      rintro e w3 ⟨rfl, hb3⟩
      go_wp2
      go_ret2
      exact ⟨rfl, HB.out.trans (hb3.mono HB.out.size)⟩

set_option maxHeartbeats 800000 in
theorem at_any (a : Option Addr) (len cap i : Nat) (n : Int) (z : Nat → Int) (w : World) (hb : Bytes w a len z) (hl : len ≤ 1048576) (hi : i ≤ 1000) (h2 : 2 ≤ n) :
    Calls Try.prog 9 #[.slice a len cap, .int .i64 i, .int .i64 n] w fun e w' => ∃ x : Int, e = .returned (.int .i64 x) ∧ 0 ≤ x ∧ x < n ∧ w' = w := by
  have t1 : ¬ n ≤ 1 := by omega
  have t3 : n ≠ 0 := by omega
  by_cases hlt : i < len
  · obtain ⟨b, o, rfl, hc⟩ := hb.1 i hlt
    have hz := hb.2 i hlt
    have hlti : (i : Int) < (len : Int) := by omega
    clear hb
    go_enter Try.func9, Try.ntmps9
    go_wp2
    go_ret
    exact ⟨_, rfl, Int.emod_nonneg _ t3, Int.emod_lt_of_pos _ (by omega), rfl⟩
  · have hlti : ¬ (i : Int) < (len : Int) := by omega
    clear hb
    go_enter Try.func9, Try.ntmps9
    go_wp2
    go_ret
    exact ⟨_, rfl, Int.emod_nonneg _ t3, Int.emod_lt_of_pos _ (by omega), rfl⟩
end Go.Proofs.Ytdcfailgakofeaa
