/-
  Walks: lists are spread, checked; the ratio of noise; a kernel is turned round.
-/
import Derived.Test.YtdcfailgakofeaaMk7
namespace Go.Proofs.Ytdcfailgakofeaa
open Go.RowKit Go.Flt

set_option maxHeartbeats 1600000 in
theorem spreadBy_any (a ka : Option Addr) (n cap m kc : Nat) (xs ks : Nat → Nat) (all : Nat) (zs : Nat → Nat) (w : World) (h1 : 1 ≤ n) (hn : n ≤ 64) (hm : m = 1 ∨ m = 3) (hr : FRow w a n xs) (hk : FRow w ka m ks) (hk0 : ∀ i, i < m → 0 ≤ fval Ieee.single (ks i)) (hall : sumW ks m = some all)
    (fa : fin Ieee.single all) (pa : 0 < fval Ieee.single all) (hz : ∀ i, i < n → spreadO xs ks n m all i = some (zs i)) (fz : ∀ i, i < n → fin Ieee.single (zs i)) :
    Calls Try.prog 24 #[.slice a n cap, .slice ka m kc] w (FNewOk w n zs) := by
  have B := Lib.hid (isBins_any a n cap 1 xs w hn h1 hr)
  have K := Lib.hid (fun w' (hb : Below w.heap.size w w') => isKernel_any ka m kc ks all w' hm (hk.below hb) hk0 hall fa pa)
  have S := Lib.hid (fun w' (hb : Below w.heap.size w w') => spread_any a ka n cap m kc xs ks all zs w' h1 hn (by omega) (hr.row.below hb) (hk.row.below hb) hall hz)
  have HFZ := Lib.hid fz
  have hnot : ∀ (b : Bool) (w : World), (Op.unary .not (.bool b)).run Try.prog w = .ok (.bool (!b)) w := fun _ _ => rfl
  clear hr hk hk0 hall fa pa hz fz
  go_enter Try.func24, Try.ntmps24
  go_wp2_with fail
  refine B.out.mono ?_
  rintro e w1 ⟨rfl, b1⟩
  have B1 := Lib.hid b1
  clear b1 B
  go_wp2_with fail
  refine (K.out _ B1.out).mono ?_
  rintro e w2 ⟨rfl, b2⟩
  have B2 := Lib.hid (B1.out.trans (b2.mono B1.out.size))
  clear b2 K B1
  go_wp2_with fail
  refine (S.out _ B2.out).mono ?_
  rintro e w3 ⟨za, zc, rfl, oz, b3⟩
  have O3 := Lib.hid oz
  have B3 := Lib.hid (B2.out.trans (b3.mono B2.out.size))
  have C := Lib.hid (checkedN_any za n zc zs w3 (by omega) (own_frow oz HFZ.out))
  have hle := B2.out.size
  clear oz b3 S
  go_wp2_with fail
  refine C.out.mono ?_
  rintro e w4 ⟨rfl, b4⟩
  go_wp2
  go_ret2
  exact ⟨_, _, rfl, own_le (owns_below O3.out (b4.mono (Nat.le_refl _))) hle, B3.out.trans (b4.mono B3.out.size)⟩

set_option maxHeartbeats 1600000 in
theorem noise_any (a : Option Addr) (n cap : Nat) (xs : Nat → Nat) (s r q : Nat) (w : World) (h1 : 1 ≤ n) (hn : n ≤ 64) (hc : n ≤ cap) (hr : FRow w a n xs) (h0 : ∀ i, i < n → 0 ≤ fval Ieee.single (xs i)) (hs : sumW xs n = some s) (fs : fin Ieee.single s) (ps : 0 < fval Ieee.single s)
    (hroot : rootW s = some r) (hq : floatBits .quo .f32 s r = some q) (fq : fin Ieee.single q) :
    Calls Try.prog 22 #[.slice a n cap, .int .i64 0, .int .i64 n] w (Soft w (.tuple #[.float .f32 q, .bool true])) := by
  have B := Lib.hid (isBins_any a n cap 1 xs w hn h1 hr)
  have K := Lib.hid (fun w' (hb : Below w.heap.size w w') => areRotor_any a n cap xs w' (by omega) (hr.below hb) h0)
  have S := Lib.hid (fun w' (hb : Below w.heap.size w w') => sum_any a n cap xs s w' (by omega) (hr.row.below hb) hs)
  have R := Lib.hid (fun w => root_any w hroot)
  have C := Lib.hid (fun w => checked1_any q w fq)
  have a1 := ar hq 27
  have t : (FloatKind.f32.format.order s 0 == some .gt) = true := by rw [gt32 fs zero_fin, zero_val]; exact decide_eq_true (by grind)
  have hnot : ∀ (b : Bool) (w : World), (Op.unary .not (.bool b)).run Try.prog w = .ok (.bool (!b)) w := fun _ _ => rfl
  obtain ⟨b, o, rfl, _⟩ := hr.row 0 (by omega)
  have hadd : (⟨b, o, none⟩ : Addr).add 0 = ⟨b, o, none⟩ := by unfold Addr.add; split <;> simp_all
  have t1 : ¬ (n : Int) ≤ 0 := by omega
  have t2 : ¬ (n : Int) < (n : Int) := by omega
  have t3 : (n : Int) ≤ (cap : Int) := by omega
  have t4 : cap ≠ 0 := by omega
  clear hr h0 hs hroot hq fs ps fq
  go_enter Try.func22, Try.ntmps22
  go_wp2_with fail
  refine B.out.mono ?_
  rintro e w1 ⟨rfl, b1⟩
  have B1 := Lib.hid b1
  clear b1 B
  go_wp2_with fail
  refine (K.out _ B1.out).mono ?_
  rintro e w2 ⟨rfl, b2⟩
  have B2 := Lib.hid (B1.out.trans (b2.mono B1.out.size))
  clear b2 K B1
  go_wp2_with fail
  refine (S.out _ B2.out).mono ?_
  rintro e w3 ⟨rfl, rfl⟩
  go_wp2_with fail
  refine (R.out _).mono ?_
  rintro e w3 ⟨rfl, rfl⟩
  go_wp2_with fail
  refine (C.out _).mono ?_
  rintro e w3 ⟨rfl, q0, rfl⟩
  go_wp2
  go_ret2
  exact ⟨rfl, below_drewN B2.out q0⟩
end Go.Proofs.Ytdcfailgakofeaa
