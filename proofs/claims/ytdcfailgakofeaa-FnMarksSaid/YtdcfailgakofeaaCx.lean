/-
  Products, lengths and sums of complex words in plain terms, and how near they are.
-/
import Derived.Test.YtdcfailgakofeaaPhGood
import Derived.Test.YtdcfailgakofeaaFltSqrt
namespace Go.Flt
open Ieee

/-- The parts of a product in 64 bits. -/
def timesC (a b c d : Nat) : Option (Nat × Nat) :=
  (floatToFloatBits .f32 a .f64).bind fun a => (floatToFloatBits .f32 b .f64).bind fun b => (floatToFloatBits .f32 c .f64).bind fun c => (floatToFloatBits .f32 d .f64).bind fun d =>
  (floatBits .mul .f64 a c).bind fun ac => (floatBits .mul .f64 b d).bind fun bd => (floatBits .sub .f64 ac bd).bind fun re =>
  (floatBits .mul .f64 a d).bind fun ad => (floatBits .mul .f64 b c).bind fun bc => (floatBits .add .f64 ad bc).bind fun im => some (re, im)

def mulC (a b c d : Nat) : Option (Nat × Nat) := (timesC a b c d).bind narrowTwo

theorem rnd_zero {f : Format} {v : Rat} {r : Nat} (h : Rnd f v r) (h0 : v = 0) : fval f r = 0 := by
  have h1 := h.pos (by grind)
  have h2 := h.neg (by grind)
  grind

/-- One step near 0 or near v: absolute errors. -/
theorem near_abs {u v w b : Rat} (h : near u v w) (hb : v.abs ≤ b) (hu : 0 ≤ u) : (w - v).abs ≤ b * u + 1 / 1267650600228229401496703205376 := by
  obtain ⟨h1, h2⟩ := h.at hb hu
  exact abs_le h1 (by grind)

theorem abs_add_le {x y a b : Rat} (hx : x.abs ≤ a) (hy : y.abs ≤ b) : (x + y).abs ≤ a + b := by
  have := abs_bounds hx
  have := abs_bounds hy
  exact abs_le (by grind) (by grind)
theorem abs_sub_le {x y a b : Rat} (hx : x.abs ≤ a) (hy : y.abs ≤ b) : (x - y).abs ≤ a + b := by
  have := abs_bounds hx
  have := abs_bounds hy
  exact abs_le (by grind) (by grind)

/-- The product is near, for parts of at most 3. -/
theorem mulC_good {a b c d : Nat} (ha : fin single a) (hb : fin single b) (hc : fin single c) (hd : fin single d) (la : (fval single a).abs ≤ 3) (lb : (fval single b).abs ≤ 3) (lc : (fval single c).abs ≤ 5 / 4) (ld : (fval single d).abs ≤ 5 / 4) :
    ∃ x y, mulC a b c d = some (x, y) ∧ fin single x ∧ fin single y ∧
      (fval single x - (fval single a * fval single c - fval single b * fval single d)).abs ≤ 1 / 2000000 ∧
      (fval single y - (fval single a * fval single d + fval single b * fval single c)).abs ≤ 1 / 2000000 ∧
      (fval single a = 0 → fval single b = 0 → fval single x = 0 ∧ fval single y = 0) := by
  obtain ⟨A, hA, fA, vA⟩ := widen ha
  obtain ⟨B, hB, fB, vB⟩ := widen hb
  obtain ⟨C, hC, fC, vC⟩ := widen hc
  obtain ⟨D, hD, fD, vD⟩ := widen hd
  have mac := abs_mul_le la lc
  have mbd := abs_mul_le lb ld
  have mad := abs_mul_le la ld
  have mbc := abs_mul_le lb lc
  obtain ⟨ac, hac, rac⟩ := mul64 fA fC (by rw [vA, vC]; unfold big; grind)
  obtain ⟨bd, hbd, rbd⟩ := mul64 fB fD (by rw [vB, vD]; unfold big; grind)
  obtain ⟨ad, had, rad⟩ := mul64 fA fD (by rw [vA, vD]; unfold big; grind)
  obtain ⟨bc, hbc, rbc⟩ := mul64 fB fC (by rw [vB, vC]; unfold big; grind)
  have z1 := rac; have z2 := rbd; have z3 := rad; have z4 := rbc
  rw [vA, vC] at rac; rw [vB, vD] at rbd; rw [vA, vD] at rad; rw [vB, vC] at rbc
  have nac := near_abs rac.near64 mac (by decide +kernel)
  have nbd := near_abs rbd.near64 mbd (by decide +kernel)
  have nad := near_abs rad.near64 mad (by decide +kernel)
  have nbc := near_abs rbc.near64 mbc (by decide +kernel)
  have b1 := abs_bounds nac
  have b2 := abs_bounds nbd
  have b3 := abs_bounds nad
  have b4 := abs_bounds nbc
  have c1 := abs_bounds mac
  have c2 := abs_bounds mbd
  have c3 := abs_bounds mad
  have c4 := abs_bounds mbc
  have sre : (fval double ac - fval double bd).abs ≤ 8 := abs_le (by grind) (by grind)
  have sim : (fval double ad + fval double bc).abs ≤ 8 := abs_le (by grind) (by grind)
  obtain ⟨re, hre, rre⟩ := sub64 rac.fin rbd.fin (by unfold big; grind)
  obtain ⟨im, him, rim⟩ := add64 rad.fin rbc.fin (by unfold big; grind)
  have nre := near_abs rre.near64 sre (by decide +kernel)
  have nim := near_abs rim.near64 sim (by decide +kernel)
  have b5 := abs_bounds nre
  have b6 := abs_bounds nim
  have c5 := abs_bounds sre
  have c6 := abs_bounds sim
  have lre : (fval double re).abs ≤ 8 + 1 / 1000000 := abs_le (by grind) (by grind)
  have lim : (fval double im).abs ≤ 8 + 1 / 1000000 := abs_le (by grind) (by grind)
  have p127 : (9 : Rat) < P2 127 := by decide +kernel
  obtain ⟨x, hx, rx⟩ := narrow rre.fin (by grind)
  obtain ⟨y, hy, ry⟩ := narrow rim.fin (by grind)
  have nx := near_abs rx.near32 lre (by decide +kernel)
  have ny := near_abs ry.near32 lim (by decide +kernel)
  have b7 := abs_bounds nx
  have b8 := abs_bounds ny
  refine ⟨x, y, ?_, rx.fin, ry.fin, abs_le (by grind) (by grind), abs_le (by grind) (by grind), ?_⟩
  · unfold mulC timesC narrowTwo
    simp [hA, hB, hC, hD, hac, hbd, hre, had, hbc, him, hx, hy]
  · intro a0 b0
    have t1 := rnd_zero rac (by rw [a0]; grind)
    have t2 := rnd_zero rbd (by rw [b0]; grind)
    have t3 := rnd_zero rad (by rw [a0]; grind)
    have t4 := rnd_zero rbc (by rw [b0]; grind)
    have t5 := rnd_zero rre (by rw [t1, t2]; grind)
    have t6 := rnd_zero rim (by rw [t3, t4]; grind)
    exact ⟨rnd_zero rx t5, rnd_zero ry t6⟩

/-- The sum of the squares in 64 bits. -/
def powC (a b : Nat) : Option Nat :=
  (floatToFloatBits .f32 a .f64).bind fun a => (floatToFloatBits .f32 b .f64).bind fun b =>
  (floatBits .mul .f64 a a).bind fun aa => (floatBits .mul .f64 b b).bind fun bb => floatBits .add .f64 aa bb
/-- The length. -/
def longC (a b : Nat) : Option Nat := (powC a b).bind fun p => (double.sqrt p).bind fun r => floatToFloatBits .f64 r .f32

theorem sq_nn (x : Rat) : 0 ≤ x * x := by
  rcases Rat.le_total (a := 0) (b := x) with h | h
  · exact Rat.mul_nonneg h h
  · have := Rat.mul_nonneg (show 0 ≤ -x by grind) (show 0 ≤ -x by grind); grind

theorem powC_good {a b : Nat} (ha : fin single a) (hb : fin single b) (la : (fval single a).abs ≤ 100) (lb : (fval single b).abs ≤ 100) :
    ∃ p, powC a b = some p ∧ fin double p ∧ 0 ≤ fval double p ∧ 
      fval double p ≤ (fval single a * fval single a + fval single b * fval single b) + ((fval single a * fval single a + fval single b * fval single b) * (1 / 1000000000000) + 1 / 10000000000000000000000000) ∧
      (fval single a * fval single a + fval single b * fval single b) ≤ fval double p + ((fval single a * fval single a + fval single b * fval single b) * (1 / 1000000000000) + 1 / 10000000000000000000000000) := by
  obtain ⟨A, hA, fA, vA⟩ := widen ha
  obtain ⟨B, hB, fB, vB⟩ := widen hb
  have maa := abs_mul_le la la
  have mbb := abs_mul_le lb lb
  obtain ⟨aa, haa, raa⟩ := mul64 fA fA (by rw [vA]; unfold big; grind)
  obtain ⟨bb, hbb, rbb⟩ := mul64 fB fB (by rw [vB]; unfold big; grind)
  rw [vA] at raa; rw [vB] at rbb
  have sa := sq_nn (fval single a)
  have sb := sq_nn (fval single b)
  have pa := raa.pos sa
  have pb := rbb.pos sb
  have na := raa.near64
  have nb := rbb.near64
  unfold near at na nb
  rw [Rat.abs_of_nonneg sa] at na
  rw [Rat.abs_of_nonneg sb] at nb
  have c1 := abs_bounds maa
  have c2 := abs_bounds mbb
  have hs : (fval double aa + fval double bb).abs ≤ 30000 := abs_le (by grind) (by grind)
  obtain ⟨p, hp, rp⟩ := add64 raa.fin rbb.fin (by unfold big; grind)
  have np := rp.near64
  unfold near at np
  rw [Rat.abs_of_nonneg (show 0 ≤ fval double aa + fval double bb by grind)] at np
  refine ⟨p, ?_, rp.fin, rp.pos (by grind), by grind, by grind⟩
  unfold powC
  simp [hA, hB, haa, hbb, hp]

theorem sq_narrow (r l : Rat) (h0 : 0 ≤ r) (hb : r ≤ 1000) (l0 : 0 ≤ l) (up : l - r ≤ r * u32 + 1 / 1267650600228229401496703205376) (dn : r - l ≤ r * u32 + 1 / 1267650600228229401496703205376) :
    l * l ≤ r * r + (r * r * (1 / 4000000) + 1 / 10000000000000000000000000) ∧ r * r ≤ l * l + (r * r * (1 / 4000000) + 1 / 10000000000000000000000000) := by
  have m1 := Rat.mul_le_mul_of_nonneg_right up l0
  have m2 := Rat.mul_le_mul_of_nonneg_right up h0
  have n1 := Rat.mul_le_mul_of_nonneg_right dn l0
  have n2 := Rat.mul_le_mul_of_nonneg_right dn h0
  have q0 := Rat.mul_nonneg h0 h0
  have q3 := Rat.mul_nonneg h0 l0
  unfold u32 at *
  constructor <;> grind

theorem longC_good {a b : Nat} (ha : fin single a) (hb : fin single b) (la : (fval single a).abs ≤ 100) (lb : (fval single b).abs ≤ 100) :
    ∃ l, longC a b = some l ∧ fin single l ∧ 0 ≤ fval single l ∧ fval single l ≤ 1000 ∧
      fval single l * fval single l ≤ (fval single a * fval single a + fval single b * fval single b) + ((fval single a * fval single a + fval single b * fval single b) * (1 / 2000000) + 1 / 1000000000000000000000000) ∧
      (fval single a * fval single a + fval single b * fval single b) ≤ fval single l * fval single l + ((fval single a * fval single a + fval single b * fval single b) * (1 / 2000000) + 1 / 1000000000000000000000000) := by
  obtain ⟨p, hp, fp, p0, p1, p2⟩ := powC_good ha hb la lb
  have maa := abs_bounds (abs_mul_le la la)
  have mbb := abs_bounds (abs_mul_le lb lb)
  have sa := sq_nn (fval single a)
  have sb := sq_nn (fval single b)
  generalize hv : fval single a * fval single a + fval single b * fval single b = v at *
  obtain ⟨r, hr, hS⟩ := sqrt_sq fp p0 (by unfold big; grind)
  have hr1 : fval double r ≤ 200 := hS.le (by grind) (by grind)
  have r0 := hS.pos
  have s1 := hS.up
  have s2 := hS.down
  have p127 : (1000 : Rat) < P2 127 := by decide +kernel
  obtain ⟨l, hl, rl⟩ := narrow hS.fin (by rw [Rat.abs_of_nonneg r0]; grind)
  have nl := rl.near32
  unfold near at nl
  rw [Rat.abs_of_nonneg r0] at nl
  have l0 := rl.pos r0
  obtain ⟨t1, t2⟩ := sq_narrow _ _ r0 (by grind) l0 nl.1 nl.2
  refine ⟨l, ?_, rl.fin, l0, by grind, by grind, by grind⟩
  unfold longC
  simp [hp, hr, hl]

/-- A length below b. -/
theorem long_le {v l b : Rat} (h0 : 0 ≤ l) (hb : 0 ≤ b) (h : l * l ≤ v + (v * (1 / 2000000) + 1 / 1000000000000000000000000)) (hv : v + (v * (1 / 2000000) + 1 / 1000000000000000000000000) ≤ b * b) : l ≤ b := by
  rcases Rat.le_total (a := l) (b := b) with h1 | h1
  · exact h1
  · by_cases h2 : l = b
    · grind
    · have h3 : b < l := by grind
      have a1 := Rat.mul_le_mul_of_nonneg_right h1 hb
      have a2 : b * l < l * l := Rat.mul_lt_mul_of_pos_right h3 (by grind)
      grind
end Go.Flt
