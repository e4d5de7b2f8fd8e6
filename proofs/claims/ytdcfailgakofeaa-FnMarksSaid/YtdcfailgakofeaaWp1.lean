/-
  Walks: products and lengths of complex numbers, the gap, and whether phases are phases.
-/
import Derived.Test.YtdcfailgakofeaaWk8
import Derived.Test.YtdcfailgakofeaaPhTab
namespace Go.Proofs.Ytdcfailgakofeaa
open Go.RowKit Go.Flt

/-- An answer and no change at all. -/
def Still (w : World) (v : Value) (e : Ending) (w' : World) : Prop := e = .returned v ∧ w' = w

theorem Still.quiet {w : World} {v : Value} {e : Ending} {w' : World} (h : Still w v e w') : Quiet w v e w' := ⟨h.1, 0, by rw [h.2]; rfl⟩

theorem bind2 {α β : Type} {x : Option α} {f : α → Option β} {r : β} (h : x.bind f = some r) : ∃ a, x = some a ∧ f a = some r := Option.bind_eq_some_iff.1 h

set_option maxHeartbeats 800000 in
theorem times_any {a b c d x y : Nat} (w : World) (h : timesC a b c d = some (x, y)) :
    Calls Try.prog 88 #[.complex .f32 a b, .complex .f32 c d] w (Still w (.tuple #[.float .f64 x, .float .f64 y])) := by
  unfold timesC at h
  obtain ⟨A, hA, h⟩ := bind2 h
  obtain ⟨B, hB, h⟩ := bind2 h
  obtain ⟨C, hC, h⟩ := bind2 h
  obtain ⟨D, hD, h⟩ := bind2 h
  obtain ⟨ac, hac, h⟩ := bind2 h
  obtain ⟨bd, hbd, h⟩ := bind2 h
  obtain ⟨re, hre, h⟩ := bind2 h
  obtain ⟨ad, had, h⟩ := bind2 h
  obtain ⟨bc, hbc, h⟩ := bind2 h
  obtain ⟨im, him, h⟩ := bind2 h
  simp only [Option.some.injEq, Prod.mk.injEq] at h
  obtain ⟨rfl, rfl⟩ := h
  have c1 := cv (src := 27) (dst := 33) u27 Try.underlying33 hA
  have c2 := cv (src := 27) (dst := 33) u27 Try.underlying33 hB
  have c3 := cv (src := 27) (dst := 33) u27 Try.underlying33 hC
  have c4 := cv (src := 27) (dst := 33) u27 Try.underlying33 hD
  have a1 := ar hac 33
  have a2 := ar hbd 33
  have a3 := ar hre 33
  have a4 := ar had 33
  have a5 := ar hbc 33
  have a6 := ar him 33
  clear hA hB hC hD hac hbd hre had hbc him
  go_enter Try.func88, Try.ntmps88
  go_wp2
  go_ret2
  exact ⟨rfl, rfl⟩

set_option maxHeartbeats 800000 in
theorem mulC_any {a b c d x y : Nat} (w : World) (h : mulC a b c d = some (x, y)) :
    Calls Try.prog 51 #[.complex .f32 a b, .complex .f32 c d] w (Still w (.complex .f32 x y)) := by
  unfold mulC narrowTwo at h
  obtain ⟨⟨re, im⟩, ht, h⟩ := bind2 h
  obtain ⟨x', hx, h⟩ := bind2 h
  obtain ⟨y', hy, h⟩ := bind2 h
  simp only [Option.some.injEq, Prod.mk.injEq] at h
  obtain ⟨rfl, rfl⟩ := h
  have T := Lib.hid (fun w => times_any w ht)
  have c1 := cv (src := 33) (dst := 27) u33 Try.underlying27 hx
  have c2 := cv (src := 33) (dst := 27) u33 Try.underlying27 hy
  clear ht hx hy
  go_enter Try.func51, Try.ntmps51
  go_wp2_with fail
  refine (T.out _).mono ?_
  rintro e w1 ⟨rfl, rfl⟩
  go_wp2
  go_ret
  exact ⟨rfl, rfl⟩

set_option maxHeartbeats 800000 in
theorem powSpec_any {a b p : Nat} (w : World) (h : powC a b = some p) :
    Calls Try.prog 94 #[.complex .f32 a b] w (Still w (.float .f64 p)) := by
  unfold powC at h
  obtain ⟨A, hA, h⟩ := bind2 h
  obtain ⟨B, hB, h⟩ := bind2 h
  obtain ⟨aa, haa, h⟩ := bind2 h
  obtain ⟨bb, hbb, h⟩ := bind2 h
  have c1 := cv (src := 27) (dst := 33) u27 Try.underlying33 hA
  have c2 := cv (src := 27) (dst := 33) u27 Try.underlying33 hB
  have a1 := ar haa 33
  have a2 := ar hbb 33
  have a3 := ar h 33
  clear hA hB haa hbb h
  go_enter Try.func94, Try.ntmps94
  go_wp2
  go_ret
  exact ⟨rfl, rfl⟩

theorem run_sqrt {x r : Nat} (h : Ieee.double.sqrt x = some r) (w : World) : (callFunc 102 #[.float .f64 x]).run Try.prog w = .ok (.value (.float .f64 r)) w := by
  have e : Extern.MathSqrt.sqrt #[.float .f64 x] = pure (.float .f64 r) := by
    have e2 : FloatKind.f64.format.sqrt x = some r := h
    show (match FloatKind.f64.format.sqrt x with | some r => _ | none => _) = _
    rw [e2]
  rw [run_callFunc_extern (e := Extern.MathSqrt.sqrt) Try.func102 (by kernel_rfl) (by kernel_rfl) (by kernel_rfl) (by kernel_rfl) _ w, e]
  rfl

set_option maxHeartbeats 800000 in
theorem sqrt_any {x r : Nat} (w : World) (h : Ieee.double.sqrt x = some r) : Calls Try.prog 79 #[.float .f64 x] w (Still w (.float .f64 r)) := by
  have h1 := fun w => run_sqrt h w
  clear h
  go_enter Try.func79, Try.ntmps79
  go_wp2
  go_ret
  exact ⟨rfl, rfl⟩

set_option maxHeartbeats 800000 in
theorem narrow_any {x r : Nat} (w : World) (h : floatToFloatBits .f64 x .f32 = some r) : Calls Try.prog 93 #[.float .f64 x] w (Still w (.float .f32 r)) := by
  have c1 := cv (src := 33) (dst := 27) u33 Try.underlying27 h
  clear h
  go_enter Try.func93, Try.ntmps93
  go_wp2
  go_ret
  exact ⟨rfl, rfl⟩

set_option maxHeartbeats 800000 in
theorem long_any {a b l : Nat} (w : World) (h : longC a b = some l) : Calls Try.prog 13 #[.complex .f32 a b] w (Still w (.float .f32 l)) := by
  have key : Calls Try.prog 56 #[.complex .f32 a b] w (Still w (.float .f32 l)) := by
    unfold longC at h
    obtain ⟨p, hp, h⟩ := bind2 h
    obtain ⟨r, hr, h⟩ := bind2 h
    have P := Lib.hid (fun w => powSpec_any w hp)
    have R := Lib.hid (fun w => sqrt_any w hr)
    have N := Lib.hid (fun w => narrow_any w h)
    clear hp hr h
    go_enter Try.func56, Try.ntmps56
    go_wp2_with fail
    refine (P.out _).mono ?_
    rintro e w1 ⟨rfl, rfl⟩
    go_wp2_with fail
    refine (R.out _).mono ?_
    rintro e w1 ⟨rfl, rfl⟩
    go_wp2_with fail
    refine (N.out _).mono ?_
    rintro e w1 ⟨rfl, rfl⟩
    go_wp2
    go_ret
    exact ⟨rfl, rfl⟩
  have K := Lib.hid key
  clear key h
  go_enter Try.func13, Try.ntmps13
  go_wp2_with fail
  refine K.out.mono ?_
  rintro e w1 ⟨rfl, rfl⟩
  go_wp2
  go_ret
  exact ⟨rfl, rfl⟩

/-- The gap of two numbers. -/
def gapOf (a b : Nat) : Option Nat := if lss .f64 a b then floatBits .sub .f64 b a else floatBits .sub .f64 a b

set_option maxHeartbeats 800000 in
theorem gap_any {a b g : Nat} (w : World) (h : gapOf a b = some g) : Calls Try.prog 14 #[.float .f64 a, .float .f64 b] w (Still w (.float .f64 g)) := by
  unfold gapOf lss at h
  cases hl : (FloatKind.f64.format.order a b == some .lt) with
  | true =>
    rw [hl, if_pos rfl] at h
    have a1 := ar h 33
    clear h
    go_enter Try.func14, Try.ntmps14
    go_wp2
    go_ret
    exact ⟨rfl, rfl⟩
  | false =>
    rw [hl, if_neg (by simp)] at h
    have a1 := ar h 33
    clear h
    go_enter Try.func14, Try.ntmps14
    go_wp2
    go_ret
    exact ⟨rfl, rfl⟩

set_option maxHeartbeats 1600000 in
theorem arePhases_any (a : Option Addr) (n cap : Nat) (re im : Nat → Nat) (m : Nat) (w : World) (hn : n ≤ 128) (hm : m ≤ n) (hr : Row w a n fun i => .complex .f32 (re i) (im i)) (hx : ∀ i, i < n → W32 (re i) ∧ W32 (im i)) (hall : allC re im n = true) :
    Calls Try.prog 49 #[.slice a n cap, .int .i64 m] w (Soft w (.bool true)) := by
  have H := Lib.hid (areComplex_any a n cap re im n w (by omega) hr hx)
  rw [decide_eq_true rfl, Bool.true_and, hall] at H
  clear hr hx hall
  have h1 : ((m : Int) ≤ (n : Int)) := by omega
  have h2 : ((n : Int) ≤ 128) := by omega
  go_enter Try.func49, Try.ntmps49
  go_wp2_with fail
  refine H.out.mono ?_
  rintro e w1 ⟨rfl, hb⟩
  go_wp2
  go_ret
  exact ⟨rfl, hb⟩
end Go.Proofs.Ytdcfailgakofeaa
