/-
  The program's sums and products of complex numbers up to not-a-numbers, and its tests whether they are finite.
-/
import Derived.Test.YtdcfailgakofeaaWk4
namespace Go.Proofs.Ytdcfailgakofeaa
open Go.RowKit Go.Flt

/-- A word of 32 bits. -/
def W32 (x : Nat) : Prop := x < 2 * Ieee.single.signWeight
theorem w32 : 2 * Ieee.single.signWeight = 4294967296 := by decide
theorem bits_w32 {op : BinOp} {x y r : Nat} (h : floatBits op .f32 x y = some r) : W32 r := by
  have := floatBits_wf h
  unfold W32; rw [w32]
  simpa [Lit.wf] using this
theorem drawn_w32 (x y : Nat) (w : World) : W32 (drawn .f32 x y w) := by
  unfold W32 drawn; rw [w32]
  generalize w.tape w.drawn (.nanBits .f32 x y) = t
  show t % 2 * 2 ^ 31 + 0x7f800000 + 1 + (t / 2) % (2 ^ 23 - 1) < 4294967296
  omega

structure LikeC (p q : Option Nat) (re im : Nat) : Prop where
  lre : Like .f32 p re
  lim : Like .f32 q im
  wre : W32 re
  wim : W32 im

def GivesC (w : World) (p q : Option Nat) (e : Ending) (w' : World) : Prop :=
  ∃ x y n, e = .returned (.complex .f32 x y) ∧ LikeC p q x y ∧ w' = w.drewN n

theorem like_none {k : FloatKind} {p : Option Nat} {v : Nat} (h : p = none) (hv : isNan k.format v) : Like k p v := by rw [h]; exact hv

theorem plus_any (p1 q1 p2 q2 : Option Nat) (a b c d : Nat) (w : World) (h1 : LikeC p1 q1 a b) (h2 : LikeC p2 q2 c d) :
    Calls Try.prog 54 #[.complex .f32 a b, .complex .f32 c d] w (GivesC w (obin .add .f32 p1 p2) (obin .add .f32 q1 q2)) := by
  rcases like_op (P := Try.prog) (Or.inl rfl) h1.lre h2.lre 27 with ⟨r, hr, lr, ar1⟩ | ⟨n1, ar1⟩ <;>
  rcases like_op (P := Try.prog) (Or.inl rfl) h1.lim h2.lim 27 with ⟨s, hs, ls, ar2⟩ | ⟨n2, ar2⟩
  · have W1 := Lib.hid (bits_w32 hr)
    have W2 := Lib.hid (bits_w32 hs)
    clear hr hs
    go_enter Try.func54, Try.ntmps54
    go_wp2
    go_ret
    exact ⟨r, s, 0, rfl, ⟨lr, ls, W1.out, W2.out⟩, rfl⟩
  · have W1 := Lib.hid (bits_w32 hr)
    have N2 := Lib.hid n2
    clear hr n2
    go_enter Try.func54, Try.ntmps54
    go_wp2
    go_ret
    exact ⟨r, _, 1, rfl, ⟨lr, like_none N2.out (drawn_nan _ _ _ _), W1.out, drawn_w32 _ _ _⟩, rfl⟩
  · have W2 := Lib.hid (bits_w32 hs)
    have N1 := Lib.hid n1
    clear hs n1
    go_enter Try.func54, Try.ntmps54
    go_wp2
    go_ret
    exact ⟨_, s, 1, rfl, ⟨like_none N1.out (drawn_nan _ _ _ _), ls, drawn_w32 _ _ _, W2.out⟩, rfl⟩
  · have N1 := Lib.hid n1
    have N2 := Lib.hid n2
    clear n1 n2
    go_enter Try.func54, Try.ntmps54
    go_wp2
    go_ret
    exact ⟨_, _, 2, rfl, ⟨like_none N1.out (drawn_nan _ _ _ _), like_none N2.out (drawn_nan _ _ _ _), drawn_w32 _ _ _, drawn_w32 _ _ _⟩, rfl⟩
theorem scale_any (p1 q1 : Option Nat) (a b c : Nat) (w : World) (h1 : LikeC p1 q1 a b) :
    Calls Try.prog 73 #[.complex .f32 a b, .float .f32 c] w (GivesC w (obin .mul .f32 p1 (some c)) (obin .mul .f32 q1 (some c))) := by
  rcases like_op (P := Try.prog) (Or.inr (Or.inr (Or.inl rfl))) h1.lre (show Like .f32 (some c) c from rfl) 27 with ⟨r, hr, lr, ar1⟩ | ⟨n1, ar1⟩ <;>
  rcases like_op (P := Try.prog) (Or.inr (Or.inr (Or.inl rfl))) h1.lim (show Like .f32 (some c) c from rfl) 27 with ⟨s, hs, ls, ar2⟩ | ⟨n2, ar2⟩
  · have W1 := Lib.hid (bits_w32 hr)
    have W2 := Lib.hid (bits_w32 hs)
    clear hr hs
    go_enter Try.func73, Try.ntmps73
    go_wp2
    go_ret
    exact ⟨r, s, 0, rfl, ⟨lr, ls, W1.out, W2.out⟩, rfl⟩
  · have W1 := Lib.hid (bits_w32 hr)
    have N2 := Lib.hid n2
    clear hr n2
    go_enter Try.func73, Try.ntmps73
    go_wp2
    go_ret
    exact ⟨r, _, 1, rfl, ⟨lr, like_none N2.out (drawn_nan _ _ _ _), W1.out, drawn_w32 _ _ _⟩, rfl⟩
  · have W2 := Lib.hid (bits_w32 hs)
    have N1 := Lib.hid n1
    clear hs n1
    go_enter Try.func73, Try.ntmps73
    go_wp2
    go_ret
    exact ⟨_, s, 1, rfl, ⟨like_none N1.out (drawn_nan _ _ _ _), ls, drawn_w32 _ _ _, W2.out⟩, rfl⟩
  · have N1 := Lib.hid n1
    have N2 := Lib.hid n2
    clear n1 n2
    go_enter Try.func73, Try.ntmps73
    go_wp2
    go_ret
    exact ⟨_, _, 2, rfl, ⟨like_none N1.out (drawn_nan _ _ _ _), like_none N2.out (drawn_nan _ _ _ _), drawn_w32 _ _ _, drawn_w32 _ _ _⟩, rfl⟩
theorem scale_spec (p1 q1 : Option Nat) (a b c : Nat) (w : World) (h1 : LikeC p1 q1 a b) :
    Calls Try.prog 57 #[.complex .f32 a b, .float .f32 c] w (GivesC w (obin .mul .f32 p1 (some c)) (obin .mul .f32 q1 (some c))) := by
  rcases like_op (P := Try.prog) (Or.inr (Or.inr (Or.inl rfl))) h1.lre (show Like .f32 (some c) c from rfl) 27 with ⟨r, hr, lr, ar1⟩ | ⟨n1, ar1⟩ <;>
  rcases like_op (P := Try.prog) (Or.inr (Or.inr (Or.inl rfl))) h1.lim (show Like .f32 (some c) c from rfl) 27 with ⟨s, hs, ls, ar2⟩ | ⟨n2, ar2⟩
  · have W1 := Lib.hid (bits_w32 hr)
    have W2 := Lib.hid (bits_w32 hs)
    clear hr hs
    go_enter Try.func57, Try.ntmps57
    go_wp2
    go_ret
    exact ⟨r, s, 0, rfl, ⟨lr, ls, W1.out, W2.out⟩, rfl⟩
  · have W1 := Lib.hid (bits_w32 hr)
    have N2 := Lib.hid n2
    clear hr n2
    go_enter Try.func57, Try.ntmps57
    go_wp2
    go_ret
    exact ⟨r, _, 1, rfl, ⟨lr, like_none N2.out (drawn_nan _ _ _ _), W1.out, drawn_w32 _ _ _⟩, rfl⟩
  · have W2 := Lib.hid (bits_w32 hs)
    have N1 := Lib.hid n1
    clear hs n1
    go_enter Try.func57, Try.ntmps57
    go_wp2
    go_ret
    exact ⟨_, s, 1, rfl, ⟨like_none N1.out (drawn_nan _ _ _ _), ls, drawn_w32 _ _ _, W2.out⟩, rfl⟩
  · have N1 := Lib.hid n1
    have N2 := Lib.hid n2
    clear n1 n2
    go_enter Try.func57, Try.ntmps57
    go_wp2
    go_ret
    exact ⟨_, _, 2, rfl, ⟨like_none N1.out (drawn_nan _ _ _ _), like_none N2.out (drawn_nan _ _ _ _), drawn_w32 _ _ _, drawn_w32 _ _ _⟩, rfl⟩

theorem row_two {w : World} (x y : Nat) : Row (w.alloc (.cells #[.float .f32 x, .float .f32 y] 27)) (some ⟨w.heap.size, 0, none⟩) 2 fun i => .float .f32 (if i = 0 then x else y) := by
  intro i hi
  refine ⟨_, _, rfl, ?_⟩
  rw [World.cell?_alloc_at _ _ _ _ rfl]
  rcases i with _ | _ | i
  · rfl
  · rfl
  · omega

/-- Are both parts finite? -/
def finC (x y : Nat) : Bool := finB Ieee.single x && finB Ieee.single y

theorem any_two (x y : Nat) : (!anyOf (fun i => !finB Ieee.single (if i = 0 then x else y)) 2) = finC x y := by
  unfold finC
  have h := anyOf_iff (fun i => !finB Ieee.single (if i = 0 then x else y)) 2
  cases hx : finB Ieee.single x <;> cases hy : finB Ieee.single y
  · rw [h.2 ⟨0, by omega, by simp [hx]⟩]; rfl
  · rw [h.2 ⟨0, by omega, by simp [hx]⟩]; rfl
  · rw [h.2 ⟨1, by omega, by simp [hy]⟩]; rfl
  · cases ha : anyOf (fun i => !finB Ieee.single (if i = 0 then x else y)) 2
    · rfl
    · obtain ⟨i, hi, h2⟩ := h.1 ha
      split at h2 <;> simp_all

theorem isFiniteC_any (x y : Nat) (w : World) (hx : W32 x) (hy : W32 y) : Calls Try.prog 55 #[.complex .f32 x y] w (Soft w (.bool (finC x y))) := by
  have H := Lib.hid (fun w0 => areFinite_any (some ⟨w.heap.size, 0, none⟩) 2 w0 (fun i => if i = 0 then x else y) (w.alloc (.cells #[.float .f32 x, .float .f32 y] 27)) (by omega) (row_two x y) (fun i _ => by split <;> assumption))
  rw [any_two] at H
  go_enter Try.func55, Try.ntmps55
  go_wp2_with fail
  refine (H.out _).mono ?_
  rintro e w1 ⟨rfl, hb1⟩
  have hb2 : Below w.heap.size w w1 := ((Below.refl _ _).alloc (Nat.le_refl _) _).trans (hb1.mono (by simp))
  clear hb1 H
  go_wp2
  go_ret
  exact ⟨rfl, hb2⟩

theorem notFiniteC_any (x y : Nat) (w : World) (hx : W32 x) (hy : W32 y) : Calls Try.prog 107 #[.complex .f32 x y] w (Soft w (.bool (!finC x y))) := by
  have H := Lib.hid (isFiniteC_any x y w hx hy)
  have hnot : ∀ (b : Bool) (w : World), (Op.unary .not (.bool b)).run Try.prog w = .ok (.bool (!b)) w := fun _ _ => rfl
  go_enter Try.func107, Try.ntmps107
  go_wp2_with fail
  refine H.out.mono ?_
  rintro e w1 ⟨rfl, hb1⟩
  go_wp2
  go_ret
  exact ⟨rfl, hb1⟩

/-- Are the first n complex numbers finite? -/
def allC (re im : Nat → Nat) (n : Nat) : Bool := !anyOf (fun i => !finC (re i) (im i)) n

theorem areComplex_any (a : Option Addr) (n cap : Nat) (re im : Nat → Nat) (m : Nat) (w : World) (hn : n ≤ 1048576) (hr : Row w a n fun i => .complex .f32 (re i) (im i)) (hx : ∀ i, i < n → W32 (re i) ∧ W32 (im i)) :
    Calls Try.prog 82 #[.slice a n cap, .int .i64 m] w (Soft w (.bool (decide (n = m) && allC re im n))) := by
  have H := Lib.hid (containsFuncC 107 (run_enter Try.func107 (by kernel_rfl) (by kernel_rfl)) a n cap _ (fun i => !finC (re i) (im i)) w hn hr (fun i hi w' => notFiniteC_any (re i) (im i) w' (hx i hi).1 (hx i hi).2))
  have hnot : ∀ (b : Bool) (w : World), (Op.unary .not (.bool b)).run Try.prog w = .ok (.bool (!b)) w := fun _ _ => rfl
  clear hr hx
  by_cases hm : n = m
  · have he : ((n : Int) == (m : Int)) = true := by rw [beq_iff_eq]; omega
    rw [decide_eq_true hm, Bool.true_and]
    clear hm
    go_enter Try.func82, Try.ntmps82
    go_wp2_with fail
    refine H.out.mono ?_
    rintro e w1 ⟨rfl, hb1⟩
    go_wp2
    go_ret
    exact ⟨rfl, hb1⟩
  · have he : ((n : Int) == (m : Int)) = false := by rw [beq_eq_false_iff_ne]; omega
    rw [decide_eq_false hm, Bool.false_and]
    clear hm
    go_enter Try.func82, Try.ntmps82
    go_wp2
    go_ret
    exact ⟨rfl, Below.refl _ _⟩

/-- A list handed on if all its numbers are finite. -/
theorem checkedComplex_any (a : Option Addr) (n cap : Nat) (re im : Nat → Nat) (w : World) (hn : n ≤ 1048576) (hr : Row w a n fun i => .complex .f32 (re i) (im i)) (hx : ∀ i, i < n → W32 (re i) ∧ W32 (im i)) :
    Calls Try.prog 53 #[.slice a n cap] w (Soft w (.tuple #[if allC re im n then .slice a n cap else .slice none 0 0, .bool (allC re im n)])) := by
  have H := Lib.hid (areComplex_any a n cap re im n w hn hr hx)
  have hnot : ∀ (b : Bool) (w : World), (Op.unary .not (.bool b)).run Try.prog w = .ok (.bool (!b)) w := fun _ _ => rfl
  rw [decide_eq_true rfl, Bool.true_and] at H
  clear hr hx
  cases hb : allC re im n
  all_goals
    rw [hb] at H
    simp only [Bool.false_eq_true, if_false, if_true]
    go_enter Try.func53, Try.ntmps53
    go_wp2_with fail
    refine H.out.mono ?_
    rintro e w1 ⟨rfl, hb1⟩
    go_wp2
    go_ret2
    exact ⟨rfl, hb1⟩

theorem isScan_any (a : Option Addr) (n cap : Nat) (xs : Nat → Nat) (w : World) (hn : n ≤ 1048576) (hr : Row w a n fun i => .float .f32 (xs i)) (hx : ∀ i, i < n → W32 (xs i)) :
    Calls Try.prog 72 #[.slice a n cap] w (Soft w (.bool (decide (2 ≤ n ∧ n ≤ 64) && !anyOf (fun i => !finB Ieee.single (xs i)) n))) := by
  have H := Lib.hid (areFinite_any a n cap xs w hn hr hx)
  clear hr hx
  by_cases h2 : 2 ≤ n
  · by_cases h64 : n ≤ 64
    · rw [decide_eq_true ⟨h2, h64⟩, Bool.true_and]
      go_enter Try.func72, Try.ntmps72
      go_wp2_with fail
      refine H.out.mono ?_
      rintro e w1 ⟨rfl, hb1⟩
      go_wp2
      go_ret
      exact ⟨rfl, hb1⟩
    · rw [decide_eq_false (by omega), Bool.false_and]
      go_enter Try.func72, Try.ntmps72
      go_wp2
      go_ret
      exact ⟨rfl, Below.refl _ _⟩
  · rw [decide_eq_false (by omega), Bool.false_and]
    go_enter Try.func72, Try.ntmps72
    go_wp2
    go_ret
    exact ⟨rfl, Below.refl _ _⟩
end Go.Proofs.Ytdcfailgakofeaa
