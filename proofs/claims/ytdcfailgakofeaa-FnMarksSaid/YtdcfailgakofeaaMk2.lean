/-
  Walks of small functions on lists of finite numbers, told.
-/
import Derived.Test.YtdcfailgakofeaaMk1
namespace Go.Proofs.Ytdcfailgakofeaa
open Go.RowKit Go.Flt

theorem long8_no (a1 a2 : Option Addr) (n1 n2 c1 c2 : Nat) (w : World) (h1 : n1 ≤ 48) (h2 : n2 ≤ 48) :
    Calls Try.prog 16 #[.slice a1 n1 c1, .slice a2 n2 c2] w (Still w (.bool false)) := by
  have t1 : ¬ (48 : Int) < (n1 : Int) := by omega
  have t2 : ¬ (48 : Int) < (n2 : Int) := by omega
  go_enter Try.func16, Try.ntmps16
  go_wp2
  go_ret
  exact ⟨rfl, rfl⟩

theorem long8_yes (a1 a2 : Option Addr) (n1 n2 c1 c2 : Nat) (w : World) (h : 48 < n1 ∨ 48 < n2) :
    Calls Try.prog 16 #[.slice a1 n1 c1, .slice a2 n2 c2] w (Still w (.bool true)) := by
  by_cases h1 : 48 < n1
  · have t1 : (48 : Int) < (n1 : Int) := by omega
    go_enter Try.func16, Try.ntmps16
    go_wp2
    go_ret
    exact ⟨rfl, rfl⟩
  · have t1 : ¬ (48 : Int) < (n1 : Int) := by omega
    have t2 : (48 : Int) < (n2 : Int) := by omega
    go_enter Try.func16, Try.ntmps16
    go_wp2
    go_ret
    exact ⟨rfl, rfl⟩

def Below_ (n : Int) (w : World) (e : Ending) (w' : World) : Prop := ∃ x : Int, e = .returned (.int .i64 x) ∧ 0 ≤ x ∧ x < n ∧ w' = w

set_option maxHeartbeats 800000 in
theorem at8_any (a : Option Addr) (len cap i : Nat) (n : Int) (z : Nat → Int) (w : World) (hb : Bytes w a len z) (hl : len ≤ 1048576) (hi : i ≤ 1000) (h2 : 2 ≤ n) :
    Calls Try.prog 17 #[.slice a len cap, .int .i64 i, .int .i64 n] w (Below_ n w) := by
  have t1 : ¬ n ≤ 1 := by omega
  have t3 : n ≠ 0 := by omega
  by_cases hlt : i < len
  · obtain ⟨b, o, rfl, hc⟩ := hb.1 i hlt
    have hz := hb.2 i hlt
    have hlti : ¬ (len : Int) ≤ (i : Int) := by omega
    clear hb
    go_enter Try.func17, Try.ntmps17
    go_wp2
    go_ret
    exact ⟨_, rfl, Int.emod_nonneg _ t3, Int.emod_lt_of_pos _ (by omega), rfl⟩
  · have hlti : (len : Int) ≤ (i : Int) := by omega
    clear hb
    go_enter Try.func17, Try.ntmps17
    go_wp2
    go_ret
    exact ⟨_, rfl, by omega, by omega, rfl⟩

/-- A row of finite words. -/
structure FRow (w : World) (a : Option Addr) (n : Nat) (xs : Nat → Nat) : Prop where
  row : Row w a n fun i => .float .f32 (xs i)
  fin : ∀ i, i < n → fin Ieee.single (xs i)

theorem FRow.below {w w' : World} {a : Option Addr} {n : Nat} {xs : Nat → Nat} (h : FRow w a n xs) (hb : Below w.heap.size w w') : FRow w' a n xs := ⟨h.row.below hb, h.fin⟩
theorem FRow.drewN {w : World} {a : Option Addr} {n m : Nat} {xs : Nat → Nat} (h : FRow w a n xs) : FRow (w.drewN m) a n xs := ⟨h.row, h.fin⟩

set_option maxHeartbeats 1600000 in
set_option maxRecDepth 100000 in
theorem sum_any (a : Option Addr) (n cap : Nat) (xs : Nat → Nat) (s : Nat) (w : World) (hn : n ≤ 1048576) (hr : Row w a n fun i => .float .f32 (xs i)) (hs : sumW xs n = some s) :
    Calls Try.prog 62 #[.slice a n cap] w (Still w (.float .f32 s)) := by
  have HR := Lib.hid hr
  have HS := Lib.hid hs
  clear hr hs
  obtain ⟨W0, hW0⟩ : ∃ W0, W0 = w := ⟨w, rfl⟩
  have HW := Lib.hid hW0
  clear hW0
  go_enter Try.func62, Try.ntmps62
  go_wp2
  go_loop [3, 8] (fun al kk => ∃ (k x : Nat), k ≤ n ∧ kk = .int .i64 k ∧ al = .float .f32 x ∧ Hid (sumW xs k = some x)) (fun _ kk => n - (intOf kk).toNat)
  case atStart => exact ⟨0, 0, Nat.zero_le _, rfl, rfl, rfl⟩
  case round =>
    obtain ⟨k, x, hk, rfl, rfl, hx⟩ := hrel
    by_cases hlt : k < n
    · obtain ⟨b1, o1, rfl, hc1⟩ := HR.out k hlt
      obtain ⟨x', hx'⟩ := sumW_le HS.out (k + 1) (by omega)
      have ax : floatBits .add .f32 x (xs k) = some x' := by
        have := hx'; unfold sumW at this; rw [hx.out] at this; exact this
      have a1 := ar ax 27
      have HX := Lib.hid hx'
      clear hx' ax
      go_wp2
      go_round
      case rel => exact ⟨k + 1, x', by omega, by go_num, rfl, HX.out⟩
      case measure => simp [intOf]; omega
    · obtain rfl : k = n := by omega
      obtain rfl : x = s := Option.some.inj (hx.out.symm.trans HS.out)
      go_wp2
      go_ret
      exact ⟨rfl, rfl⟩

theorem any_fin {xs : Nat → Nat} {n : Nat} (h : ∀ i, i < n → fin Ieee.single (xs i)) : (!anyOf (fun i => !finB Ieee.single (xs i)) n) = true := by
  have : anyOf (fun i => !finB Ieee.single (xs i)) n = false := by
    rw [anyOf_false]
    intro i hi
    rw [fin_finB (h i hi)]; rfl
  rw [this]; rfl

set_option maxHeartbeats 800000 in
theorem isBins_any (a : Option Addr) (n cap m : Nat) (xs : Nat → Nat) (w : World) (hn : n ≤ 64) (hm : m ≤ n) (hr : FRow w a n xs) :
    Calls Try.prog 58 #[.slice a n cap, .int .i64 m] w (Soft w (.bool true)) := by
  have H := Lib.hid (areFinite_any a n cap xs w (by omega) hr.row (fun i hi => (hr.fin i hi).1))
  rw [any_fin hr.fin] at H
  clear hr
  have h1 : ((m : Int) ≤ (n : Int)) := by omega
  have h2 : ((n : Int) ≤ 64) := by omega
  go_enter Try.func58, Try.ntmps58
  go_wp2_with fail
  refine H.out.mono ?_
  rintro e w1 ⟨rfl, hb⟩
  go_wp2
  go_ret
  exact ⟨rfl, hb⟩

set_option maxHeartbeats 800000 in
theorem checkedN_any (a : Option Addr) (n cap : Nat) (xs : Nat → Nat) (w : World) (hn : n ≤ 1048576) (hr : FRow w a n xs) :
    Calls Try.prog 60 #[.slice a n cap] w (Soft w (.tuple #[.slice a n cap, .bool true])) := by
  have H := Lib.hid (areFinite_any a n cap xs w hn hr.row (fun i hi => (hr.fin i hi).1))
  rw [any_fin hr.fin] at H
  have hnot : ∀ (b : Bool) (w : World), (Op.unary .not (.bool b)).run Try.prog w = .ok (.bool (!b)) w := fun _ _ => rfl
  clear hr
  go_enter Try.func60, Try.ntmps60
  go_wp2_with fail
  refine H.out.mono ?_
  rintro e w1 ⟨rfl, hb⟩
  go_wp2
  go_ret2
  exact ⟨rfl, hb⟩

set_option maxHeartbeats 800000 in
theorem checked1_any (x : Nat) (w : World) (hx : fin Ieee.single x) : Calls Try.prog 63 #[.float .f32 x] w (Quiet w (.tuple #[.float .f32 x, .bool true])) := by
  have H := Lib.hid (isFinite_any x w hx.1)
  rw [fin_finB hx] at H
  have hnot : ∀ (b : Bool) (w : World), (Op.unary .not (.bool b)).run Try.prog w = .ok (.bool (!b)) w := fun _ _ => rfl
  clear hx
  go_enter Try.func63, Try.ntmps63
  go_wp2_with fail
  refine H.out.mono ?_
  rintro e w1 ⟨rfl, n, rfl⟩
  go_wp2
  go_ret2
  exact ⟨rfl, n, rfl⟩

theorem notRotor_any (x : Nat) (w : World) (hx : fin Ieee.single x) (h0 : 0 ≤ fval Ieee.single x) : Calls Try.prog 96 #[.float .f32 x] w (Quiet w (.bool false)) := by
  have H := Lib.hid (isFinite_any x w hx.1)
  rw [fin_finB hx] at H
  have hnot : ∀ (b : Bool) (w : World), (Op.unary .not (.bool b)).run Try.prog w = .ok (.bool (!b)) w := fun _ _ => rfl
  have t : (FloatKind.f32.format.order x 0 == some .lt) = false := by rw [lt32 hx zero_fin, zero_val]; exact decide_eq_false (by grind)
  clear hx h0
  go_enter Try.func96, Try.ntmps96
  go_wp2_with fail
  refine H.out.mono ?_
  rintro e w1 ⟨rfl, n, rfl⟩
  go_wp2
  go_ret
  exact ⟨rfl, n, rfl⟩

theorem notPositive_any (x : Nat) (w : World) (hx : fin Ieee.single x) (h0 : 0 < fval Ieee.single x) : Calls Try.prog 97 #[.float .f32 x] w (Quiet w (.bool false)) := by
  have H := Lib.hid (isFinite_any x w hx.1)
  rw [fin_finB hx] at H
  have hnot : ∀ (b : Bool) (w : World), (Op.unary .not (.bool b)).run Try.prog w = .ok (.bool (!b)) w := fun _ _ => rfl
  have t1 : (FloatKind.f32.format.order x 0 == some .lt) = false := by rw [lt32 hx zero_fin, zero_val]; exact decide_eq_false (by grind)
  have t2 : (FloatKind.f32.format.order x 0 == some .eq) = false := by rw [eq32 hx zero_fin, zero_val]; exact decide_eq_false (by grind)
  clear hx h0
  go_enter Try.func97, Try.ntmps97
  go_wp2_with fail
  refine H.out.mono ?_
  rintro e w1 ⟨rfl, n, rfl⟩
  go_wp2
  go_ret
  exact ⟨rfl, n, rfl⟩

theorem anyOf_none (n : Nat) : anyOf (fun _ => false) n = false := by rw [anyOf_false]; intro _ _; rfl

set_option maxHeartbeats 800000 in
theorem areRotor_any (a : Option Addr) (n cap : Nat) (xs : Nat → Nat) (w : World) (hn : n ≤ 1048576) (hr : FRow w a n xs) (h0 : ∀ i, i < n → 0 ≤ fval Ieee.single (xs i)) :
    Calls Try.prog 61 #[.slice a n cap] w (Soft w (.bool true)) := by
  have H := Lib.hid (containsFunc32 96 (run_enter Try.func96 (by kernel_rfl) (by kernel_rfl)) a n cap _ (fun _ => false) w hn hr.row (fun i hi w' => (notRotor_any (xs i) w' (hr.fin i hi) (h0 i hi)).mono fun _ _ h => h.soft))
  rw [anyOf_none] at H
  have hnot : ∀ (b : Bool) (w : World), (Op.unary .not (.bool b)).run Try.prog w = .ok (.bool (!b)) w := fun _ _ => rfl
  clear hr h0
  go_enter Try.func61, Try.ntmps61
  go_wp2_with fail
  refine H.out.mono ?_
  rintro e w1 ⟨rfl, hb⟩
  go_wp2
  go_ret
  exact ⟨rfl, hb⟩

set_option maxHeartbeats 800000 in
theorem arePositive_any (a : Option Addr) (n cap : Nat) (xs : Nat → Nat) (w : World) (hn : n ≤ 1048576) (hr : FRow w a n xs) (h0 : ∀ i, i < n → 0 < fval Ieee.single (xs i)) :
    Calls Try.prog 66 #[.slice a n cap] w (Soft w (.bool true)) := by
  have H := Lib.hid (containsFunc32 97 (run_enter Try.func97 (by kernel_rfl) (by kernel_rfl)) a n cap _ (fun _ => false) w hn hr.row (fun i hi w' => (notPositive_any (xs i) w' (hr.fin i hi) (h0 i hi)).mono fun _ _ h => h.soft))
  rw [anyOf_none] at H
  have hnot : ∀ (b : Bool) (w : World), (Op.unary .not (.bool b)).run Try.prog w = .ok (.bool (!b)) w := fun _ _ => rfl
  clear hr h0
  go_enter Try.func66, Try.ntmps66
  go_wp2_with fail
  refine H.out.mono ?_
  rintro e w1 ⟨rfl, hb⟩
  go_wp2
  go_ret
  exact ⟨rfl, hb⟩

set_option maxHeartbeats 1600000 in
theorem isKernel_any (a : Option Addr) (n cap : Nat) (xs : Nat → Nat) (s : Nat) (w : World) (hn : n = 1 ∨ n = 3) (hr : FRow w a n xs) (h0 : ∀ i, i < n → 0 ≤ fval Ieee.single (xs i)) (hs : sumW xs n = some s) (fs : fin Ieee.single s) (sp : 0 < fval Ieee.single s) :
    Calls Try.prog 64 #[.slice a n cap] w (Soft w (.bool true)) := by
  have H := Lib.hid (areRotor_any a n cap xs w (by omega) hr h0)
  have S := Lib.hid (fun w' (hb : Below w.heap.size w w') => sum_any a n cap xs s w' (by omega) (hr.row.below hb) hs)
  have t : (FloatKind.f32.format.order s 0 == some .gt) = true := by rw [gt32 fs zero_fin, zero_val]; exact decide_eq_true (by grind)
  have hd : (decide ((n : Int) = 1) = true) ∨ (decide ((n : Int) = 1) = false ∧ decide ((n : Int) = 3) = true) := by
    rcases hn with rfl | rfl
    · left; rfl
    · right; exact ⟨rfl, rfl⟩
  clear hr h0 hs fs sp
  rcases hn with rfl | rfl
  all_goals
    go_enter Try.func64, Try.ntmps64
    go_wp2_with fail
    refine H.out.mono ?_
    rintro e w1 ⟨rfl, hb⟩
    go_wp2_with fail
    refine (S.out _ hb).mono ?_
    rintro e w2 ⟨rfl, rfl⟩
    go_wp2
    go_ret
    exact ⟨rfl, hb⟩

set_option maxHeartbeats 800000 in
theorem within_any (n l h : Int) (w : World) (h1 : l ≤ n) (h2 : n ≤ h) : Calls Try.prog 67 #[.int .i64 n, .int .i64 l, .int .i64 h] w (Still w (.bool true)) := by
  go_enter Try.func67, Try.ntmps67
  go_wp2
  go_ret
  exact ⟨rfl, rfl⟩

/-- The root of a number. -/
def rootW (x : Nat) : Option Nat := (floatToFloatBits .f32 x .f64).bind fun p => (Ieee.double.sqrt p).bind fun r => floatToFloatBits .f64 r .f32

set_option maxHeartbeats 800000 in
theorem root_any {x r : Nat} (w : World) (h : rootW x = some r) : Calls Try.prog 35 #[.float .f32 x] w (Still w (.float .f32 r)) := by
  unfold rootW at h
  obtain ⟨p, hp, h⟩ := bind2 h
  obtain ⟨q, hq, h⟩ := bind2 h
  have c1 := cv (src := 27) (dst := 33) u27 Try.underlying33 hp
  have c2 := cv (src := 33) (dst := 27) u33 Try.underlying27 h
  have S := Lib.hid (fun w => sqrt_any w hq)
  clear hp hq h
  go_enter Try.func35, Try.ntmps35
  go_wp2_with fail
  refine (S.out _).mono ?_
  rintro e w1 ⟨rfl, rfl⟩
  go_wp2
  go_ret
  exact ⟨rfl, rfl⟩

/-- The absolute value of a difference of 32-bit numbers. -/
def gap8 (a b : Nat) : Option Nat :=
  (floatToFloatBits .f32 a .f64).bind fun A => (floatToFloatBits .f32 b .f64).bind fun B =>
  (floatBits .sub .f64 A B).bind fun x => (floatBits .sub .f64 B A).bind fun y => if (FloatKind.f64.format.order x y).isSome then some (maxW .f64 x y) else none

set_option maxHeartbeats 800000 in
theorem gap8_any {a b g : Nat} (w : World) (h : gap8 a b = some g) : Calls Try.prog 21 #[.float .f32 a, .float .f32 b] w (Still w (.float .f64 g)) := by
  unfold gap8 at h
  obtain ⟨A, hA, h⟩ := bind2 h
  obtain ⟨B, hB, h⟩ := bind2 h
  obtain ⟨x, hx, h⟩ := bind2 h
  obtain ⟨y, hy, h⟩ := bind2 h
  by_cases ho : (FloatKind.f64.format.order x y).isSome = true
  · rw [if_pos ho] at h
    obtain rfl := Option.some.inj h
    have c1 := cv (src := 27) (dst := 33) u27 Try.underlying33 hA
    have c2 := cv (src := 27) (dst := 33) u27 Try.underlying33 hB
    have a1 := ar hx 33
    have a2 := ar hy 33
    have m := run_maxF ho
    clear h hA hB hx hy ho
    go_enter Try.func21, Try.ntmps21
    go_wp2
    go_ret
    exact ⟨rfl, rfl⟩
  · rw [if_neg ho] at h; cases h

theorem gap8_good {a b : Nat} (ha : fin Ieee.single a) (hb : fin Ieee.single b) (d : Rat) (hd : (fval Ieee.single a - fval Ieee.single b).abs ≤ d) (d1 : d ≤ 1000) : ∃ g, gap8 a b = some g ∧ fin Ieee.double g ∧ fval Ieee.double g ≤ d + d * u64 + 1 / 1267650600228229401496703205376 := by
  obtain ⟨A, hA, fA, vA⟩ := widen ha
  obtain ⟨B, hB, fB, vB⟩ := widen hb
  have b1 := abs_bounds hd
  have hd2 : (fval Ieee.single b - fval Ieee.single a).abs ≤ d := abs_le (by grind) (by grind)
  obtain ⟨x, hx, rx⟩ := sub64 fA fB (by rw [vA, vB]; unfold big; grind)
  obtain ⟨y, hy, ry⟩ := sub64 fB fA (by rw [vA, vB]; unfold big; grind)
  rw [vA, vB] at rx
  rw [vA, vB] at ry
  have n1 := abs_bounds (near_abs rx.near64 hd (by decide +kernel))
  have n2 := abs_bounds (near_abs ry.near64 hd2 (by decide +kernel))
  obtain ⟨ho, fm, vm⟩ := max64_good rx.fin ry.fin
  refine ⟨maxW .f64 x y, ?_, fm, by rw [vm]; grind⟩
  unfold gap8
  simp only [hA, hB, hx, hy, Option.bind_some]
  rw [if_pos ho]
end Go.Proofs.Ytdcfailgakofeaa
