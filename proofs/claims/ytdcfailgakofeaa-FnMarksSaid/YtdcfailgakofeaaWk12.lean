/-
  Marks found again in a row.
-/
import Derived.Test.YtdcfailgakofeaaWk11
namespace Go.Proofs.Ytdcfailgakofeaa
open Go.RowKit Go.Flt

theorem one_fin : fin Ieee.single 1065353216 := by unfold fin; decide +kernel

theorem order_one {v : Nat} (h : fin Ieee.single v) : Ieee.single.order v v = some .eq := by
  apply order_self
  obtain ⟨s, m, e, h1, _⟩ := fin_read h
  unfold isNan
  rw [h1]; simp [Ieee.Datum.isNaN]

theorem held_ne {k : Nat} (h : k ≤ 2097152) (w : World) : (binOp .neq 30 (.complex .f32 (mkNat k) 1065353216) (.complex .f32 (mkNat k) 1065353216)).run Try.prog w = .ok (.bool false) w := by
  have h1 := order_one (mk_some h).2
  have h2 := order_one one_fin
  have e : FloatKind.f32.format = Ieee.single := rfl
  have hu := Try.underlying30
  simp [binOp, run_underlying hu, go_sem, Op.complexOp, Op.Complex.cmp, Op.floatCmp, e, h1, h2]

set_option maxHeartbeats 1600000 in
set_option maxRecDepth 100000 in
theorem held_any (a : Option Addr) (n cap m : Nat) (w : World) (hn : n ≤ 1048576) (hm : m ≤ 4) (hr : Row w a n fun i => markC (m + i)) :
    Calls Try.prog 33 #[.slice a n cap, .int .i64 m] w fun e w' => e = .returned (.int .i64 ((m + n : Nat) : Int)) ∧ w' = w := by
  have HR := Lib.hid hr
  clear hr
  obtain ⟨W0, hW0⟩ : ∃ W0, W0 = w := ⟨w, rfl⟩
  have HW := Lib.hid hW0
  clear hW0
  go_enter Try.func33, Try.ntmps33
  go_wp2
  go_loop [1, 5] (fun j i => ∃ k : Nat, k ≤ n ∧ i = .int .i64 k ∧ j = .int .i64 ((m + k : Nat) : Int)) (fun _ i => n - (intOf i).toNat)
  case atStart => exact ⟨0, Nat.zero_le _, rfl, rfl⟩
  case round =>
    obtain ⟨k, hk, rfl, rfl⟩ := hrel
    by_cases hlt : k < n
    · obtain ⟨b1, o1, rfl, hc1⟩ := HR.out k hlt
      unfold markC at hc1
      have a1 := fun w => run_markC (k := m + k) (by omega) w
      have a2 := fun w => held_ne (k := m + k) (by omega) w
      rw [Int.natCast_add] at a1
      go_wp2
      go_round
      case rel => exact ⟨k + 1, by omega, by go_num, by go_num⟩
      case measure => simp [intOf]; omega
    · obtain rfl : k = n := by omega
      go_wp2
      go_ret
      exact ⟨rfl, rfl⟩
end Go.Proofs.Ytdcfailgakofeaa
