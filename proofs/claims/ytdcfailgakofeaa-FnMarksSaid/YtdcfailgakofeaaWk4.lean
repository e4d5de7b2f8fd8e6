/-
  The program's tests whether numbers are finite.
-/
import Derived.Test.YtdcfailgakofeaaWk2
import Derived.Test.YtdcfailgakofeaaLike
import Derived.WalkSmall
namespace Go.Proofs.Ytdcfailgakofeaa
open Go.RowKit Go.Flt

/-- An answer, and nothing but draws. -/
def Quiet (w : World) (v : Value) (e : Ending) (w' : World) : Prop := e = .returned v ∧ ∃ n, w' = w.drewN n

/-- An answer; old memory is as it was. -/
def Soft (w : World) (v : Value) (e : Ending) (w' : World) : Prop := e = .returned v ∧ Below w.heap.size w w'

theorem Quiet.soft {w : World} {v : Value} {e : Ending} {w' : World} (h : Quiet w v e w') : Soft w v e w' := by
  obtain ⟨h1, n, rfl⟩ := h
  exact ⟨h1, below_drewN (Below.refl _ _) n⟩

theorem isFinite_any (x : Nat) (w : World) (hx : x < 2 * Ieee.single.signWeight) : Calls Try.prog 50 #[.float .f32 x] w (Quiet w (.bool (finB Ieee.single x))) := by
  cases hf : finB Ieee.single x with
  | true =>
    obtain ⟨z, hz, hz0⟩ := self32 (finB_iff.1 hf)
    have a1 := ar hz 27
    go_enter Try.func50, Try.ntmps50
    go_wp2
    go_ret
    exact ⟨rfl, 0, rfl⟩
  | false =>
    have hn := self32_not hx (fun h => by rw [finB_iff.2 h] at hf; cases hf)
    have a1 := fun w => run_invalid (P := Try.prog) w .sub 27 .f32 x x (Or.inr (Or.inl rfl)) hn
    have a2 : ∀ w, (FloatKind.f32.format.order (drawn .f32 x x w) 0 == some .eq) = false := fun w => by rw [(nan_order (drawn_nan .f32 x x w) 0).1]; rfl
    go_enter Try.func50, Try.ntmps50
    go_wp2
    go_ret
    exact ⟨rfl, 1, rfl⟩

theorem notFinite_any (x : Nat) (w : World) (hx : x < 2 * Ieee.single.signWeight) : Calls Try.prog 101 #[.float .f32 x] w (Quiet w (.bool (!finB Ieee.single x))) := by
  have H := Lib.hid (isFinite_any x w hx)
  have hnot : ∀ (b : Bool) (w : World), (Op.unary .not (.bool b)).run Try.prog w = .ok (.bool (!b)) w := fun _ _ => rfl
  go_enter Try.func101, Try.ntmps101
  go_wp2_with fail
  refine H.out.mono ?_
  rintro e w' ⟨rfl, n, rfl⟩
  go_wp2
  go_ret
  exact ⟨rfl, n, rfl⟩

/-- A slice of n elements, of which element i is f i. -/
def Row (w : World) (a : Option Addr) (n : Nat) (f : Nat → Value) : Prop :=
  ∀ i, i < n → ∃ b off, a = some ⟨b, off, none⟩ ∧ w.cell? ⟨b, off + i, none⟩ = some (f i)

/-- The first of n indexes from k on at which a test says yes; n if none does. -/
def firstAt (p : Nat → Bool) : Nat → Nat → Nat
  | 0, k => k
  | d + 1, k => if p k then k else firstAt p d (k + 1)

theorem firstAt_le (p : Nat → Bool) : ∀ d k, firstAt p d k ≤ k + d
  | 0, k => Nat.le_refl _
  | d + 1, k => by
    unfold firstAt
    split
    · omega
    · have := firstAt_le p d (k + 1); omega

/-- A function with a body, called by its value, is entered. -/
theorem run_enter {F : FuncId} {fn : Func} (hf : Try.prog.funcs[F]? = some fn) (hname : (fn.name == "runtime.NumGoroutine") = false) (hb : fn.body.isNone = false) (args : Array Value) (w : World) :
    (callFunc F args).run Try.prog w = .ok (.enter F args) w := by
  have h1 : fn.name ≠ "runtime.NumGoroutine" := by simpa using hname
  have h2 : fn.body ≠ none := by intro h; rw [h] at hb; cases hb
  simp [callFunc, hf, h1, h2, Sem.run]

/-- What IndexFunc answers. -/
def idxOf (p : Nat → Bool) (n : Nat) : Int := if firstAt p n 0 < n then (firstAt p n 0 : Int) else -1

set_option maxHeartbeats 1600000 in
set_option maxRecDepth 100000 in
theorem indexFunc32 (F : Nat) (hF : ∀ args w, (callFunc F args).run Try.prog w = .ok (.enter F args) w) (a : Option Addr) (n cap : Nat) (f : Nat → Value) (p : Nat → Bool) (w : World) (hn : n ≤ 1048576) (hr : Row w a n f) (hp : ∀ i, i < n → ∀ w', Calls Try.prog F #[f i] w' (Soft w' (.bool (p i)))) :
    Calls Try.prog 111 #[.slice a n cap, .func (.func F) #[] #[]] w (Soft w (.int .i64 (idxOf p n))) := by
  have HR := Lib.hid hr
  have HP := Lib.hid hp
  clear hr hp
  go_enter Try.func111, Try.ntmps111
  go_wp2
  go_loopw [4, 8] (fun _ i wr => ∃ k : Nat, k ≤ n ∧ i = .int .i64 k ∧ Hid (firstAt p (n - k) k = firstAt p n 0) ∧ Below w.heap.size w wr) (fun _ i _ => n - (intOf i).toNat)
  case atStart => exact ⟨0, Nat.zero_le _, rfl, rfl, Below.refl _ _⟩
  case round =>
    obtain ⟨k, hk, rfl, hf, hbel⟩ := hrel
    by_cases hlt : k < n
    · obtain ⟨b, off, rfl, hc0⟩ := HR.out k hlt
      have hc := (hbel.cell (p := ⟨b, off + k, none⟩) (World.block_lt_of_cell? w _ hc0)).trans hc0
      clear hc0
      have HC := Lib.hid (HP.out k hlt)
      have hst : firstAt p (n - k) k = if p k then k else firstAt p (n - (k + 1)) (k + 1) := by
        rw [show n - k = (n - (k + 1)) + 1 by omega, firstAt]
      rw [hf.out] at hst
      have HS := Lib.hid hst
      clear hst hf
      go_wp2_with fail
      refine (HC.out _).mono ?_
      rintro e w1 ⟨rfl, hb1⟩
      have hb2 := hbel.trans (hb1.mono hbel.size)
      clear hb1 hbel hc
      cases hb : p k with
      | true =>
        go_wp2
        go_ret
        refine ⟨?_, hb2⟩
        have h2 := HS.out
        rw [hb, if_pos rfl] at h2
        unfold idxOf; rw [h2, if_pos hlt]; rfl
      | false =>
        go_wp2
        go_roundw
        case rel => exact ⟨k + 1, by omega, by go_num, by have h2 := HS.out; rw [hb] at h2; exact h2.symm, hb2⟩
        case measure => simp [intOf]; omega
    · have h0 : firstAt p n 0 = n := by rw [← hf.out, show k = n by omega, Nat.sub_self]; rfl
      have H0 := Lib.hid h0
      clear h0 hf
      go_wp2
      go_ret
      refine ⟨?_, hbel⟩
      unfold idxOf; rw [H0.out, if_neg (Nat.lt_irrefl _)]; rfl

set_option maxHeartbeats 1600000 in
set_option maxRecDepth 100000 in
theorem indexFuncC (F : Nat) (hF : ∀ args w, (callFunc F args).run Try.prog w = .ok (.enter F args) w) (a : Option Addr) (n cap : Nat) (f : Nat → Value) (p : Nat → Bool) (w : World) (hn : n ≤ 1048576) (hr : Row w a n f) (hp : ∀ i, i < n → ∀ w', Calls Try.prog F #[f i] w' (Soft w' (.bool (p i)))) :
    Calls Try.prog 116 #[.slice a n cap, .func (.func F) #[] #[]] w (Soft w (.int .i64 (idxOf p n))) := by
  have HR := Lib.hid hr
  have HP := Lib.hid hp
  clear hr hp
  go_enter Try.func116, Try.ntmps116
  go_wp2
  go_loopw [4, 8] (fun _ i wr => ∃ k : Nat, k ≤ n ∧ i = .int .i64 k ∧ Hid (firstAt p (n - k) k = firstAt p n 0) ∧ Below w.heap.size w wr) (fun _ i _ => n - (intOf i).toNat)
  case atStart => exact ⟨0, Nat.zero_le _, rfl, rfl, Below.refl _ _⟩
  case round =>
    obtain ⟨k, hk, rfl, hf, hbel⟩ := hrel
    by_cases hlt : k < n
    · obtain ⟨b, off, rfl, hc0⟩ := HR.out k hlt
      have hc := (hbel.cell (p := ⟨b, off + k, none⟩) (World.block_lt_of_cell? w _ hc0)).trans hc0
      clear hc0
      have HC := Lib.hid (HP.out k hlt)
      have hst : firstAt p (n - k) k = if p k then k else firstAt p (n - (k + 1)) (k + 1) := by
        rw [show n - k = (n - (k + 1)) + 1 by omega, firstAt]
      rw [hf.out] at hst
      have HS := Lib.hid hst
      clear hst hf
      go_wp2_with fail
      refine (HC.out _).mono ?_
      rintro e w1 ⟨rfl, hb1⟩
      have hb2 := hbel.trans (hb1.mono hbel.size)
      clear hb1 hbel hc
      cases hb : p k with
      | true =>
        go_wp2
        go_ret
        refine ⟨?_, hb2⟩
        have h2 := HS.out
        rw [hb, if_pos rfl] at h2
        unfold idxOf; rw [h2, if_pos hlt]; rfl
      | false =>
        go_wp2
        go_roundw
        case rel => exact ⟨k + 1, by omega, by go_num, by have h2 := HS.out; rw [hb] at h2; exact h2.symm, hb2⟩
        case measure => simp [intOf]; omega
    · have h0 : firstAt p n 0 = n := by rw [← hf.out, show k = n by omega, Nat.sub_self]; rfl
      have H0 := Lib.hid h0
      clear h0 hf
      go_wp2
      go_ret
      refine ⟨?_, hbel⟩
      unfold idxOf; rw [H0.out, if_neg (Nat.lt_irrefl _)]; rfl

/-- Does the test say yes anywhere? -/
def anyOf (p : Nat → Bool) (n : Nat) : Bool := decide (0 ≤ idxOf p n)

theorem firstAt_lt (p : Nat → Bool) : ∀ d k, (firstAt p d k < k + d ↔ ∃ i, k ≤ i ∧ i < k + d ∧ p i = true)
  | 0, k => by simp [firstAt]; omega
  | d + 1, k => by
    unfold firstAt
    by_cases h : p k
    · rw [if_pos h]
      exact ⟨fun _ => ⟨k, Nat.le_refl _, by omega, h⟩, fun _ => by omega⟩
    · rw [if_neg h]
      have := firstAt_lt p d (k + 1)
      constructor
      · intro h1
        obtain ⟨i, a, b, c⟩ := this.1 (by omega)
        exact ⟨i, by omega, by omega, c⟩
      · rintro ⟨i, a, b, c⟩
        have hne : i ≠ k := by rintro rfl; exact h c
        have := this.2 ⟨i, by omega, by omega, c⟩
        omega
theorem anyOf_iff (p : Nat → Bool) (n : Nat) : anyOf p n = true ↔ ∃ i, i < n ∧ p i = true := by
  unfold anyOf idxOf
  have h := firstAt_lt p n 0
  rw [decide_eq_true_iff]
  by_cases h1 : firstAt p n 0 < n
  · rw [if_pos h1]
    obtain ⟨i, _, a, b⟩ := h.1 (by omega)
    exact ⟨fun _ => ⟨i, by omega, b⟩, fun _ => by omega⟩
  · rw [if_neg h1]
    constructor
    · intro h2; omega
    · rintro ⟨i, a, b⟩
      have := h.2 ⟨i, by omega, by omega, b⟩
      omega

theorem containsFunc32 (F : Nat) (hF : ∀ args w, (callFunc F args).run Try.prog w = .ok (.enter F args) w) (a : Option Addr) (n cap : Nat) (f : Nat → Value) (p : Nat → Bool) (w : World) (hn : n ≤ 1048576) (hr : Row w a n f) (hp : ∀ i, i < n → ∀ w', Calls Try.prog F #[f i] w' (Soft w' (.bool (p i)))) :
    Calls Try.prog 95 #[.slice a n cap, .func (.func F) #[] #[]] w (Soft w (.bool (anyOf p n))) := by
  have H := Lib.hid (indexFunc32 F hF a n cap f p w hn hr hp)
  clear hr hp hF
  go_enter Try.func95, Try.ntmps95
  go_wp2_with fail
  refine H.out.mono ?_
  rintro e w1 ⟨rfl, hb1⟩
  go_wp2
  go_ret
  exact ⟨rfl, hb1⟩

theorem containsFuncC (F : Nat) (hF : ∀ args w, (callFunc F args).run Try.prog w = .ok (.enter F args) w) (a : Option Addr) (n cap : Nat) (f : Nat → Value) (p : Nat → Bool) (w : World) (hn : n ≤ 1048576) (hr : Row w a n f) (hp : ∀ i, i < n → ∀ w', Calls Try.prog F #[f i] w' (Soft w' (.bool (p i)))) :
    Calls Try.prog 106 #[.slice a n cap, .func (.func F) #[] #[]] w (Soft w (.bool (anyOf p n))) := by
  have H := Lib.hid (indexFuncC F hF a n cap f p w hn hr hp)
  clear hr hp hF
  go_enter Try.func106, Try.ntmps106
  go_wp2_with fail
  refine H.out.mono ?_
  rintro e w1 ⟨rfl, hb1⟩
  go_wp2
  go_ret
  exact ⟨rfl, hb1⟩

theorem areFinite_any (a : Option Addr) (n cap : Nat) (xs : Nat → Nat) (w : World) (hn : n ≤ 1048576) (hr : Row w a n fun i => .float .f32 (xs i)) (hx : ∀ i, i < n → xs i < 2 * Ieee.single.signWeight) :
    Calls Try.prog 78 #[.slice a n cap] w (Soft w (.bool (!anyOf (fun i => !finB Ieee.single (xs i)) n))) := by
  have H := Lib.hid (containsFunc32 101 (run_enter Try.func101 (by kernel_rfl) (by kernel_rfl)) a n cap _ (fun i => !finB Ieee.single (xs i)) w hn hr (fun i hi w' => (notFinite_any (xs i) w' (hx i hi)).mono fun _ _ h => h.soft))
  have hnot : ∀ (b : Bool) (w : World), (Op.unary .not (.bool b)).run Try.prog w = .ok (.bool (!b)) w := fun _ _ => rfl
  clear hr hx
  go_enter Try.func78, Try.ntmps78
  go_wp2_with fail
  refine H.out.mono ?_
  rintro e w1 ⟨rfl, hb1⟩
  go_wp2
  go_ret
  exact ⟨rfl, hb1⟩
end Go.Proofs.Ytdcfailgakofeaa
