/-
  What the program's functions on one number of turns return: the whole part, what is left, the sine, the phasor.
-/
import Derived.Test.YtdcfailgakofeaaRows
import Derived.Test.YtdcfailgakofeaaPh
import Derived.WalkKit
import Derived.WalkSpells
import Derived.WalkLawsBesides
import Derived.Laws.Externs
import Derived.Outline
import Derived.Lib.Hide
import Derived.Deep.QuietTactic
import Derived.BigQuiet
import Derived.IntWalk
import Derived.Deep.LoopGhost
namespace Go.Proofs.Ytdcfailgakofeaa
open Go.RowKit Go.Flt

theorem run_frombits64 (n : Int) (w : World) : (callFunc 108 #[.int .u64 n]).run Try.prog w = .ok (.value (.float .f64 n.toNat)) w :=
  (run_callFunc_extern (e := Extern.MathFloatBits.float64frombits) Try.func108 (by kernel_rfl) (by kernel_rfl) (by kernel_rfl) (by kernel_rfl) _ w).trans rfl
theorem run_bits64 (x : Nat) (w : World) : (callFunc 117 #[.float .f64 x]).run Try.prog w = .ok (.value (.int .u64 x)) w :=
  (run_callFunc_extern (e := Extern.MathFloatBits.float64bits) Try.func117 (by kernel_rfl) (by kernel_rfl) (by kernel_rfl) (by kernel_rfl) _ w).trans rfl
theorem trunc_entry (x : Nat) (hx : fin Ieee.double x) : Extern.MathFloor.toIntegral "math.archTrunc" .zero #[.float .f64 x] = pure (.float .f64 (cutOff x)) := by
  obtain ⟨s, m, e, h, _⟩ := fin_read hx
  have h' : FloatKind.f64.decode x = .number s m e := h
  unfold cutOff
  show (match FloatKind.f64.decode x with | .nan s t => _ | d => _) = _
  rw [h']
theorem run_archTrunc (x : Nat) (w : World) (hx : fin Ieee.double x) : (callFunc 118 #[.float .f64 x]).run Try.prog w = .ok (.value (.float .f64 (cutOff x))) w := by
  rw [run_callFunc_extern (e := Extern.MathFloor.toIntegral "math.archTrunc" .zero) Try.func118 (by kernel_rfl) (by kernel_rfl) (by kernel_rfl) (by kernel_rfl) _ w, trunc_entry x hx]
  rfl

theorem trunc_any (x : Nat) (w : World) (hx : fin Ieee.double x) : Calls Try.prog 110 #[.float .f64 x] w fun e w' => e = .returned (.float .f64 (cutOff x)) ∧ w = w' := by
  have h1 := fun w => run_archTrunc x w hx
  go_enter Try.func110, Try.ntmps110
  go_wp2
  go_ret
  exact ⟨rfl, rfl⟩

/-- A valid operation on two words, as the walk's rule. -/
theorem ar {op : BinOp} {k : FloatKind} {x y r : Nat} (h : floatBits op k x y = some r) (t : TypeId) : ∀ w, (binOp op t (.float k x) (.float k y)).run Try.prog w = .ok (.float k r) w :=
  fun w => run_float_arith w op t k x y r h

/-- What is left of turns. -/
theorem part_any (t f : Nat) (w : World) (ht : fin Ieee.double t) (h : partOf t = some f) : Calls Try.prog 91 #[.float .f64 t] w fun e w' => e = .returned (.float .f64 f) ∧ w = w' := by
  unfold partOf at h
  obtain ⟨g, hg, hr⟩ := Option.bind_eq_some_iff.1 h
  unfold wholeOf at hg
  have H := Lib.hid (fun w => trunc_any t w ht)
  clear h
  cases he : eql .f64 (cutOff t) 0
  all_goals
    rw [he] at hg
    simp only [if_true, Bool.false_eq_true, if_false] at hg
    unfold eql at he
    have a1 := ar hg 33
    clear hg
    cases hl : lss .f64 g 0
    all_goals
      rw [hl] at hr
      simp only [if_true, Bool.false_eq_true, if_false] at hr
      unfold lss at hl
      first
        | (have a2 := ar hr 33; clear hr)
        | (simp only [Option.some.injEq] at hr; subst hr)
      go_enter Try.func91, Try.ntmps91
      go_wp2_with fail
      refine (H.out _).mono ?_
      rintro e w' ⟨rfl, rfl⟩
      go_wp2
      go_ret
      exact ⟨rfl, rfl⟩

/-- The loop's k: 8.0 less j. -/
def kb (j : Nat) : Nat := FloatKind.f64.nearest (8 - (j : Int))

theorem kb_step : ∀ j, j < 8 → floatBits .sub .f64 (kb j) one64 = some (kb (j + 1)) := by decide +kernel
theorem kb_two : ∀ j : Nat, j < 8 → floatBits .mul .f64 4611686018427387904 (kb j) = some (FloatKind.f64.nearest (2 * (8 - (j : Int)))) := by decide +kernel
theorem kb_odd : ∀ j : Nat, j < 8 → floatBits .add .f64 (FloatKind.f64.nearest (2 * (8 - (j : Int)))) one64 = some (FloatKind.f64.nearest (2 * (8 - (j : Int)) + 1)) := by decide +kernel
theorem kb_den : ∀ j : Nat, j < 8 → floatBits .mul .f64 (FloatKind.f64.nearest (2 * (8 - (j : Int)))) (FloatKind.f64.nearest (2 * (8 - (j : Int)) + 1)) = some (den j) := by decide +kernel
theorem kb_go : ∀ j, j < 8 → (FloatKind.f64.format.order (kb j) one64 == some .gt || FloatKind.f64.format.order (kb j) one64 == some .eq) = true := by decide +kernel
theorem kb_end : (FloatKind.f64.format.order (kb 8) one64 == some .gt || FloatKind.f64.format.order (kb 8) one64 == some .eq) = false := by decide +kernel

theorem pol_some {u p : Nat} (h : pol u 8 = some p) : ∀ j, j ≤ 8 → ∃ q, pol u (8 - j) = some q
  | 0, _ => ⟨p, h⟩
  | j + 1, hj => by
    obtain ⟨q, hq⟩ := pol_some h j (by omega)
    have e : 8 - j = (8 - (j + 1)) + 1 := by omega
    rw [e, pol] at hq
    obtain ⟨a, ha, _⟩ := Option.bind_eq_some_iff.1 hq
    exact ⟨a, ha⟩

set_option maxHeartbeats 1600000 in
theorem sine_any (t r : Nat) (w : World) (ht : fin Ieee.double t) (h : sineOf t = some r) : Calls Try.prog 92 #[.float .f64 t] w fun e w' => e = .returned (.float .f64 r) ∧ w = w' := by
  unfold sineOf sineRest at h
  obtain ⟨f, hf, h⟩ := Option.bind_eq_some_iff.1 h
  obtain ⟨f1, hf1, h⟩ := Option.bind_eq_some_iff.1 h
  obtain ⟨f2, hf2, h⟩ := Option.bind_eq_some_iff.1 h
  obtain ⟨z, hz, h⟩ := Option.bind_eq_some_iff.1 h
  obtain ⟨u, hu, h⟩ := Option.bind_eq_some_iff.1 h
  obtain ⟨p, hp, h⟩ := Option.bind_eq_some_iff.1 h
  obtain ⟨r0, hr0, h⟩ := Option.bind_eq_some_iff.1 h
  have H := Lib.hid (fun w => part_any t f w ht hf)
  have hneg : ∀ (x : Nat) (w : World), (Op.unary .neg (.float .f64 x)).run Try.prog w = .ok (.float .f64 (opp64 x)) w := fun _ _ => rfl
  have a3 := ar hz 33
  have a4 := ar hu 33
  have a5 := ar hr0 33
  have HP := Lib.hid hp
  clear hf hz hu hr0 hp
  cases he : geq .f64 f half64
  all_goals
    rw [he] at hf1 h
    simp only [if_true, Bool.false_eq_true, if_false] at hf1 h
    unfold geq at he
    simp only [Option.some.injEq] at h
    subst h
    cases hl : gtr .f64 f1 quarter64
    all_goals
      rw [hl] at hf2
      simp only [if_true, Bool.false_eq_true, if_false] at hf2
      unfold gtr at hl
      first
        | (have a1 := ar hf1 33; clear hf1)
        | (simp only [Option.some.injEq] at hf1; subst hf1)
      first
        | (have a2 := ar hf2 33; clear hf2)
        | (simp only [Option.some.injEq] at hf2; subst hf2)
      go_enter Try.func92, Try.ntmps92
      go_wp2_with fail
      refine (H.out _).mono ?_
      rintro e w' ⟨rfl, rfl⟩
      go_wp2
      go_loopg [7, 8] 8 (fun n pp kk wr => ∃ j q : Nat, j ≤ 8 ∧ n = 8 - j ∧ kk = .float .f64 (kb j) ∧ pp = .float .f64 q ∧ Hid (pol u j = some q) ∧ wr = w)
      case atStart => exact ⟨0, one64, by omega, rfl, rfl, rfl, rfl, rfl⟩
      case round =>
        obtain ⟨j, q, hj, hgk, rfl, rfl, hq, rfl⟩ := hrel
        by_cases hlt : j < 8
        · obtain ⟨q2, hq2⟩ := pol_some HP.out (8 - (j + 1)) (by omega)
          rw [show 8 - (8 - (j + 1)) = j + 1 by omega, pol, hq.out, Option.bind_some] at hq2
          have HQ2 := hq2
          unfold polStep at hq2
          obtain ⟨m, hm, hq2⟩ := Option.bind_eq_some_iff.1 hq2
          obtain ⟨d, hd, hq2⟩ := Option.bind_eq_some_iff.1 hq2
          have b1 := ar hm 33
          have b2 := ar (kb_two j hlt) 33
          have b3 := ar (kb_odd j hlt) 33
          have b4 := ar (kb_den j hlt) 33
          have b5 := ar hd 33
          have b6 := ar hq2 33
          have b7 := ar (kb_step j hlt) 33
          have b8 := kb_go j hlt
          have HX := Lib.hid (show pol u (j + 1) = some q2 by rw [pol, hq.out, Option.bind_some]; exact HQ2)
          clear hm hd hq2 HQ2
          go_wp2
          go_roundg (8 - (j + 1))
          case rel => exact ⟨j + 1, q2, by omega, rfl, rfl, rfl, HX, rfl⟩
          case measure => omega
        · obtain rfl : j = 8 := by omega
          obtain rfl : p = q := Option.some.inj (HP.out.symm.trans hq.out)
          have b8 := kb_end
          go_wp2
          go_ret
          exact ⟨rfl, rfl⟩
end Go.Proofs.Ytdcfailgakofeaa
