/-
  The reference's tests whether numbers are finite.
-/
import Derived.Test.YtdcfailgakofeaaWk6
import Derived.Test.YtdcfailgakofeaaWk3
namespace Go.Proofs.Ytdcfailgakofeaa
open Go.RowKit Go.Flt

theorem isFinite_spec (x : Nat) (w : World) (hx : x < 2 * Ieee.single.signWeight) : Calls Try.prog 112 #[.float .f32 x] w (Quiet w (.bool (finB Ieee.single x))) := by
  cases hf : finB Ieee.single x with
  | true =>
    obtain ⟨z, hz, hz0⟩ := self32 (finB_iff.1 hf)
    have a1 := ar hz 27
    go_enter Try.func112, Try.ntmps112
    go_wp2
    go_ret
    exact ⟨rfl, 0, rfl⟩
  | false =>
    have hn := self32_not hx (fun h => by rw [finB_iff.2 h] at hf; cases hf)
    have a1 := fun w => run_invalid (P := Try.prog) w .sub 27 .f32 x x (Or.inr (Or.inl rfl)) hn
    have a2 : ∀ w, (FloatKind.f32.format.order (drawn .f32 x x w) 0 == some .eq) = false := fun w => by rw [(nan_order (drawn_nan .f32 x x w) 0).1]; rfl
    go_enter Try.func112, Try.ntmps112
    go_wp2
    go_ret
    exact ⟨rfl, 1, rfl⟩

set_option maxHeartbeats 1600000 in
set_option maxRecDepth 100000 in
theorem finite_spec (a : Option Addr) (n cap : Nat) (xs : Nat → Nat) (w : World) (hn : n ≤ 1048576) (hr : Row w a n fun i => .float .f32 (xs i)) (hx : ∀ i, i < n → W32 (xs i)) :
    Calls Try.prog 98 #[.slice a n cap] w (Soft w (.bool (!anyOf (fun i => !finB Ieee.single (xs i)) n))) := by
  have hnot : ∀ (b : Bool) (w : World), (Op.unary .not (.bool b)).run Try.prog w = .ok (.bool (!b)) w := fun _ _ => rfl
  have HR := Lib.hid hr
  have HX := Lib.hid hx
  clear hr hx
  have YES : Hid ((∀ i, i < n → finB Ieee.single (xs i) = true) → (!anyOf (fun i => !finB Ieee.single (xs i)) n) = true) := fun h => by
    rw [(anyOf_false _ _).2 (fun i hi => by rw [h i hi]; rfl)]; rfl
  have NO : Hid (∀ i, i < n → finB Ieee.single (xs i) = false → (!anyOf (fun i => !finB Ieee.single (xs i)) n) = false) := fun i hi h => by
    rw [(anyOf_iff _ _).2 ⟨i, hi, by rw [h]; rfl⟩]; rfl
  generalize hA : (!anyOf (fun i => !finB Ieee.single (xs i)) n) = A at *
  clear hA
  go_enter Try.func98, Try.ntmps98
  go_wp2
  go_loopw [3] (fun i wr => ∃ k : Nat, k ≤ n ∧ i = .int .i64 k ∧ Hid (∀ i, i < k → finB Ieee.single (xs i) = true) ∧ Below w.heap.size w wr) (fun i _ => n - (intOf i).toNat)
  case atStart => exact ⟨0, Nat.zero_le _, rfl, fun i hi => by omega, Below.refl _ _⟩
  case round =>
    obtain ⟨k, hk, rfl, hf, hbel⟩ := hrel
    by_cases hlt : k < n
    · obtain ⟨b, off, rfl, hc0⟩ := HR.out k hlt
      have hc := (hbel.cell (p := ⟨b, off + k, none⟩) (World.block_lt_of_cell? w _ hc0)).trans hc0
      clear hc0
      have HC := Lib.hid (fun w => (isFinite_spec (xs k) w (HX.out k hlt)).mono fun _ _ h => h.soft)
      go_wp2_with fail
      refine (HC.out _).mono ?_
      rintro e w1 ⟨rfl, hb1⟩
      have hb2 := hbel.trans (hb1.mono hbel.size)
      clear hb1 hbel hc HC
      cases hb : finB Ieee.single (xs k) with
      | true =>
        have HS := Lib.hid hb
        go_wp2
        go_roundw
        case rel => exact ⟨k + 1, by omega, by go_num, fun i hi => by
                                    by_cases h1 : i < k
                                    · exact hf.out i h1
                                    · rw [show i = k by omega]; exact HS.out, hb2⟩
        case measure => simp [intOf]; omega
      | false =>
        have HS := Lib.hid hb
        go_wp2
        go_ret
        exact ⟨by rw [NO.out k hlt HS.out]; rfl, hb2⟩
    · have HF := Lib.hid (YES.out fun i hi => hf.out i (by omega))
      go_wp2
      go_ret
      exact ⟨by rw [HF.out]; rfl, hbel⟩


theorem cfinite_spec (x y : Nat) (w : World) (hx : W32 x) (hy : W32 y) : Calls Try.prog 113 #[.complex .f32 x y] w (Soft w (.bool (finC x y))) := by
  have H1 := Lib.hid (fun w => (isFinite_spec x w hx).mono fun _ _ h => h.soft)
  have H2 := Lib.hid (fun w => (isFinite_spec y w hy).mono fun _ _ h => h.soft)
  unfold finC
  cases h1 : finB Ieee.single x
  · rw [h1] at H1
    rw [Bool.false_and]
    go_enter Try.func113, Try.ntmps113
    go_wp2_with fail
    refine (H1.out _).mono ?_
    rintro e w1 ⟨rfl, hb1⟩
    go_wp2
    go_ret
    exact ⟨rfl, hb1⟩
  · rw [h1] at H1
    rw [Bool.true_and]
    go_enter Try.func113, Try.ntmps113
    go_wp2_with fail
    refine (H1.out _).mono ?_
    rintro e w1 ⟨rfl, hb1⟩
    go_wp2_with fail
    refine (H2.out _).mono ?_
    rintro e w2 ⟨rfl, hb2⟩
    have hb3 := hb1.trans (hb2.mono hb1.size)
    clear hb1 hb2
    go_wp2
    go_ret
    exact ⟨rfl, hb3⟩

set_option maxHeartbeats 1600000 in
set_option maxRecDepth 100000 in
theorem cfinites_spec (a : Option Addr) (n cap : Nat) (re im : Nat → Nat) (w : World) (hn : n ≤ 1048576) (hr : Row w a n fun i => .complex .f32 (re i) (im i)) (hx : ∀ i, i < n → W32 (re i) ∧ W32 (im i)) :
    Calls Try.prog 99 #[.slice a n cap] w (Soft w (.bool (!anyOf (fun i => !finC (re i) (im i)) n))) := by
  have hnot : ∀ (b : Bool) (w : World), (Op.unary .not (.bool b)).run Try.prog w = .ok (.bool (!b)) w := fun _ _ => rfl
  have HR := Lib.hid hr
  have HX := Lib.hid hx
  clear hr hx
  have YES : Hid ((∀ i, i < n → finC (re i) (im i) = true) → (!anyOf (fun i => !finC (re i) (im i)) n) = true) := fun h => by
    rw [(anyOf_false _ _).2 (fun i hi => by rw [h i hi]; rfl)]; rfl
  have NO : Hid (∀ i, i < n → finC (re i) (im i) = false → (!anyOf (fun i => !finC (re i) (im i)) n) = false) := fun i hi h => by
    rw [(anyOf_iff _ _).2 ⟨i, hi, by rw [h]; rfl⟩]; rfl
  generalize hA : (!anyOf (fun i => !finC (re i) (im i)) n) = A at *
  clear hA
  go_enter Try.func99, Try.ntmps99
  go_wp2
  go_loopw [3] (fun i wr => ∃ k : Nat, k ≤ n ∧ i = .int .i64 k ∧ Hid (∀ i, i < k → finC (re i) (im i) = true) ∧ Below w.heap.size w wr) (fun i _ => n - (intOf i).toNat)
  case atStart => exact ⟨0, Nat.zero_le _, rfl, fun i hi => by omega, Below.refl _ _⟩
  case round =>
    obtain ⟨k, hk, rfl, hf, hbel⟩ := hrel
    by_cases hlt : k < n
    · obtain ⟨b, off, rfl, hc0⟩ := HR.out k hlt
      have hc := (hbel.cell (p := ⟨b, off + k, none⟩) (World.block_lt_of_cell? w _ hc0)).trans hc0
      clear hc0
      have HC := Lib.hid (fun w => cfinite_spec (re k) (im k) w (HX.out k hlt).1 (HX.out k hlt).2)
      go_wp2_with fail
      refine (HC.out _).mono ?_
      rintro e w1 ⟨rfl, hb1⟩
      have hb2 := hbel.trans (hb1.mono hbel.size)
      clear hb1 hbel hc HC
      cases hb : finC (re k) (im k) with
      | true =>
        have HS := Lib.hid hb
        go_wp2
        go_roundw
        case rel => exact ⟨k + 1, by omega, by go_num, fun i hi => by
                                    by_cases h1 : i < k
                                    · exact hf.out i h1
                                    · rw [show i = k by omega]; exact HS.out, hb2⟩
        case measure => simp [intOf]; omega
      | false =>
        have HS := Lib.hid hb
        go_wp2
        go_ret
        exact ⟨by rw [NO.out k hlt HS.out]; rfl, hb2⟩
    · have HF := Lib.hid (YES.out fun i hi => hf.out i (by omega))
      go_wp2
      go_ret
      exact ⟨by rw [HF.out]; rfl, hbel⟩


theorem give_spec (a : Option Addr) (n cap : Nat) (re im : Nat → Nat) (w : World) (hn : n ≤ 1048576) (hr : Row w a n fun i => .complex .f32 (re i) (im i)) (hx : ∀ i, i < n → W32 (re i) ∧ W32 (im i)) :
    Calls Try.prog 70 #[.slice a n cap] w (Soft w (.tuple #[if allC re im n then .slice a n cap else .slice none 0 0, .bool (allC re im n)])) := by
  have H := Lib.hid (cfinites_spec a n cap re im w hn hr hx)
  have hnot : ∀ (b : Bool) (w : World), (Op.unary .not (.bool b)).run Try.prog w = .ok (.bool (!b)) w := fun _ _ => rfl
  have e : (!anyOf (fun i => !finC (re i) (im i)) n) = allC re im n := rfl
  rw [e] at H
  clear hr hx
  cases hb : allC re im n
  all_goals
    rw [hb] at H
    simp only [Bool.false_eq_true, if_false, if_true]
    go_enter Try.func70, Try.ntmps70
    go_wp2_with fail
    refine H.out.mono ?_
    rintro e w1 ⟨rfl, hb1⟩
    go_wp2
    go_ret2
    exact ⟨rfl, hb1⟩

theorem bins_spec (a : Option Addr) (n cap : Nat) (xs : Nat → Nat) (w : World) (hn : n ≤ 1048576) (hr : Row w a n fun i => .float .f32 (xs i)) (hx : ∀ i, i < n → W32 (xs i)) :
    Calls Try.prog 69 #[.slice a n cap, .int .i64 2] w (Soft w (.bool (scanIs xs n))) := by
  have H := Lib.hid (finite_spec a n cap xs w hn hr hx)
  clear hr hx
  unfold scanIs
  by_cases h2 : 2 ≤ n
  · by_cases h64 : n ≤ 64
    · rw [decide_eq_true ⟨h2, h64⟩, Bool.true_and]
      go_enter Try.func69, Try.ntmps69
      go_wp2_with fail
      refine H.out.mono ?_
      rintro e w1 ⟨rfl, hb1⟩
      go_wp2
      go_ret
      exact ⟨rfl, hb1⟩
    · rw [decide_eq_false (by omega), Bool.false_and]
      go_enter Try.func69, Try.ntmps69
      go_wp2
      go_ret
      exact ⟨rfl, Below.refl _ _⟩
  · rw [decide_eq_false (by omega), Bool.false_and]
    go_enter Try.func69, Try.ntmps69
    go_wp2
    go_ret
    exact ⟨rfl, Below.refl _ _⟩
end Go.Proofs.Ytdcfailgakofeaa
