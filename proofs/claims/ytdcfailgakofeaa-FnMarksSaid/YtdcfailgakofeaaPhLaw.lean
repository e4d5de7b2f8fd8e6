/-
  The plain law of turned phases: they keep their length, nearly, and turn back, nearly; means are told.
-/
import Derived.Test.YtdcfailgakofeaaWp5
namespace Go.Flt
open Ieee Go.Proofs.Ytdcfailgakofeaa

abbrev c001 : Nat := 4562254508917369340
theorem c001_val : fin double c001 ∧ (1 / 1000 : Rat) ≤ fval double c001 := by
  refine ⟨by unfold fin; decide +kernel, by decide +kernel⟩

theorem qw_good : ∀ k, k < 9 → (qw k < 2 * single.signWeight ∧ qw k % single.signWeight < single.infRung) ∧ fval single (qw k) = ((k : Int) - 4 : Int) * (1 / 4) := by decide +kernel

theorem qw_fin {k : Nat} (h : k < 9) : fin single (qw k) := (qw_good k h).1
theorem qw_abs : ∀ k, k < 9 → (fval single (qw k)).abs ≤ 1 ∧ (fval single (qw k) = 0 ∨ 1 / 16 ≤ fval single (qw k) * fval single (qw k)) := by decide +kernel

/-- Two complex words whose difference is short. -/
def ShortGap (a b c d : Nat) : Prop :=
  ∃ dx dy l L, floatBits .sub .f32 a c = some dx ∧ floatBits .sub .f32 b d = some dy ∧ longC dx dy = some l ∧ floatToFloatBits .f32 l .f64 = some L ∧ fin double L ∧ 0 ≤ fval double L ∧ fval double L ≤ 1 / 10000

theorem shortGap {a b c d : Nat} (ha : fin single a) (hb : fin single b) (hc : fin single c) (hd : fin single d) (h1 : (fval single a - fval single c).abs ≤ 1 / 100000) (h2 : (fval single b - fval single d).abs ≤ 1 / 100000) : ShortGap a b c d := by
  obtain ⟨dx, hdx, rx⟩ := sub32 ha hc (by unfold big; grind)
  obtain ⟨dy, hdy, ry⟩ := sub32 hb hd (by unfold big; grind)
  have nx := abs_bounds (near_abs rx.near32 h1 (by decide +kernel))
  have ny := abs_bounds (near_abs ry.near32 h2 (by decide +kernel))
  have b1 := abs_bounds h1
  have b2 := abs_bounds h2
  have lx : (fval single dx).abs ≤ 1 / 50000 := abs_le (by grind) (by grind)
  have ly : (fval single dy).abs ≤ 1 / 50000 := abs_le (by grind) (by grind)
  obtain ⟨l, hl, fl, l0, _, l2, _⟩ := longC_good rx.fin ry.fin (by grind) (by grind)
  have m1 := abs_bounds (abs_mul_le lx lx)
  have m2 := abs_bounds (abs_mul_le ly ly)
  have hle := long_le l0 (b := 1 / 10000) (by grind) l2 (by grind)
  obtain ⟨L, hL, fL, vL⟩ := widen fl
  exact ⟨dx, dy, l, L, hdx, hdy, hl, hL, fL, by grind, by grind⟩

theorem gap_small {a b : Nat} (ha : fin double a) (hb : fin double b) (h : (fval double a - fval double b).abs ≤ 1 / 10000) : ∃ g, gapOf a b = some g ∧ fin double g ∧ fval double g ≤ 1 / 5000 := by
  have b1 := abs_bounds h
  unfold gapOf
  split
  · have h' : (fval double b - fval double a).abs ≤ 1 / 10000 := abs_le (by grind) (by grind)
    obtain ⟨g, hg, rg⟩ := sub64 hb ha (by unfold big; grind)
    have n := abs_bounds (near_abs rg.near64 h' (by decide +kernel))
    exact ⟨g, hg, rg.fin, by grind⟩
  · obtain ⟨g, hg, rg⟩ := sub64 ha hb (by unfold big; grind)
    have n := abs_bounds (near_abs rg.near64 h (by decide +kernel))
    exact ⟨g, hg, rg.fin, by grind⟩

/-- Lengths whose squares are near are near. -/
theorem long_near {l m : Rat} (l0 : 0 ≤ l) (m0 : 1 / 5 ≤ m) (h1 : l * l ≤ m * m + 1 / 60000) (h2 : m * m ≤ l * l + 1 / 60000) : (l - m).abs ≤ 1 / 10000 := by
  apply abs_le
  · rcases Rat.le_total (a := l) (b := m + 1 / 10000) with h | h
    · grind
    · have a1 := Rat.mul_le_mul_of_nonneg_right h l0
      have a2 := Rat.mul_le_mul_of_nonneg_right h (show (0 : Rat) ≤ m by grind)
      grind
  · rcases Rat.le_total (a := m) (b := l + 1 / 10000) with h | h
    · grind
    · have a1 := Rat.mul_le_mul_of_nonneg_right h l0
      have a2 := Rat.mul_le_mul_of_nonneg_right h (show (0 : Rat) ≤ m by grind)
      grind

/-- What is told of one phase. -/
structure Phase (x y j i : Nat) (t b s : Nat × Nat) : Prop where
  turn : ∃ p, phasor (turnAt (turn32 j) i) = some p ∧ mulC x y p.1 p.2 = some t
  back : ∃ p, phasor (turnAt (opp32 (turn32 j)) i) = some p ∧ mulC t.1 t.2 p.1 p.2 = some b
  still : ∃ p, phasor (turnAt 0 i) = some p ∧ mulC x y p.1 p.2 = some s
  ft : fin single t.1 ∧ fin single t.2
  fb : fin single b.1 ∧ fin single b.2
  fs : fin single s.1 ∧ fin single s.2
  near : ShortGap b.1 b.2 x y
  kept : ShortGap s.1 s.2 x y
  long : ∃ l m L M g, longC t.1 t.2 = some l ∧ longC x y = some m ∧ floatToFloatBits .f32 l .f64 = some L ∧ floatToFloatBits .f32 m .f64 = some M ∧ gapOf L M = some g ∧ fin double g ∧ fval double g ≤ 1 / 5000

theorem turn_size {X Y C S : Rat} (hX : X.abs ≤ 1) (hY : Y.abs ≤ 1) (hC : C.abs ≤ 5 / 4) (hS : S.abs ≤ 5 / 4) : (X * C - Y * S).abs ≤ 5 / 2 ∧ (X * S + Y * C).abs ≤ 5 / 2 := by
  have a := abs_sub_le (abs_mul_le hX hC) (abs_mul_le hY hS)
  have b := abs_add_le (abs_mul_le hX hS) (abs_mul_le hY hC)
  constructor <;> grind

theorem back_near {X Y C S tx ty bx by_ : Rat} (hX : X.abs ≤ 1) (hY : Y.abs ≤ 1) (hC : C.abs ≤ 5 / 4) (hS : S.abs ≤ 5 / 4) (one : (C * C + S * S - 1).abs ≤ 1 / 1000000)
    (e1 : (tx - (X * C - Y * S)).abs ≤ 1 / 2000000) (e2 : (ty - (X * S + Y * C)).abs ≤ 1 / 2000000)
    (e3 : (bx - (tx * C - ty * -S)).abs ≤ 1 / 2000000) (e4 : (by_ - (tx * -S + ty * C)).abs ≤ 1 / 2000000) :
    (bx - X).abs ≤ 1 / 100000 ∧ (by_ - Y).abs ≤ 1 / 100000 := by
  have m1 := abs_bounds (abs_mul_le e1 hC)
  have m2 := abs_bounds (abs_mul_le e2 hS)
  have m3 := abs_bounds (abs_mul_le e1 hS)
  have m4 := abs_bounds (abs_mul_le e2 hC)
  have n1 := abs_bounds (abs_mul_le hX one)
  have n2 := abs_bounds (abs_mul_le hY one)
  have b3 := abs_bounds e3
  have b4 := abs_bounds e4
  constructor
  · exact abs_le (by grind) (by grind)
  · exact abs_le (by grind) (by grind)

theorem long_kept {X Y C S tx ty : Rat} (hX : X.abs ≤ 1) (hY : Y.abs ≤ 1) (hC : C.abs ≤ 5 / 4) (hS : S.abs ≤ 5 / 4) (one : (C * C + S * S - 1).abs ≤ 1 / 1000000)
    (e1 : (tx - (X * C - Y * S)).abs ≤ 1 / 2000000) (e2 : (ty - (X * S + Y * C)).abs ≤ 1 / 2000000) :
    (tx * tx + ty * ty - (X * X + Y * Y)).abs ≤ 1 / 100000 := by
  obtain ⟨s1, s2⟩ := turn_size hX hY hC hS
  have m1 := abs_bounds (abs_mul_le e1 s1)
  have m2 := abs_bounds (abs_mul_le e2 s2)
  have m3 := abs_bounds (abs_mul_le e1 e1)
  have m4 := abs_bounds (abs_mul_le e2 e2)
  have x2 := abs_mul_le hX hX
  have y2 := abs_mul_le hY hY
  have n1 := abs_bounds (abs_mul_le x2 one)
  have n2 := abs_bounds (abs_mul_le y2 one)
  exact abs_le (by grind) (by grind)

theorem small_root {v l : Rat} (l0 : 0 ≤ l) (h : l * l ≤ v + (v * (1 / 2000000) + 1 / 1000000000000000000000000)) (hv : v = 0) : l ≤ 1 / 100000 :=
  long_le l0 (by grind) h (by rw [hv]; grind)

theorem phase_good {k1 k2 j i : Nat} (h1 : k1 < 9) (h2 : k2 < 9) (hj : j < 17) (hi : i < 8) : ∃ t b s, Phase (qw k1) (qw k2) j i t b s := by
  obtain ⟨p, q, hp, hq, hO⟩ := turn_pair hj hi
  have fX := qw_fin h1
  have fY := qw_fin h2
  obtain ⟨aX, zX⟩ := qw_abs k1 h1
  obtain ⟨aY, zY⟩ := qw_abs k2 h2
  have bX := abs_bounds aX
  have bY := abs_bounds aY
  obtain ⟨tx, ty, ht, ftx, fty, e1, e2, zt⟩ := mulC_good fX fY hO.f1 hO.f2 (by grind) (by grind) hO.l1 hO.l2
  obtain ⟨s1, s2⟩ := turn_size aX aY hO.l1 hO.l2
  have bs1 := abs_bounds s1
  have bs2 := abs_bounds s2
  have be1 := abs_bounds e1
  have be2 := abs_bounds e2
  have ltx : (fval single tx).abs ≤ 3 := abs_le (by grind) (by grind)
  have lty : (fval single ty).abs ≤ 3 := abs_le (by grind) (by grind)
  have lq2 : (fval single q.2).abs ≤ 5 / 4 := by rw [hO.im, Rat.abs_neg]; exact hO.l2
  obtain ⟨bx, by_, hb, fbx, fby, e3, e4, _⟩ := mulC_good ftx fty hO.f3 hO.f4 ltx lty (by rw [hO.re]; exact hO.l1) lq2
  rw [hO.re, hO.im] at e3 e4
  obtain ⟨n1, n2⟩ := back_near aX aY hO.l1 hO.l2 hO.one e1 e2 e3 e4
  have f1 : fin single 1065353216 := by unfold fin; decide +kernel
  have f0 : fin single 0 := by unfold fin; decide +kernel
  have v1 : fval single 1065353216 = 1 := by decide +kernel
  have v0 : fval single 0 = 0 := by decide +kernel
  obtain ⟨sx, sy, hs, fsx, fsy, e5, e6, _⟩ := mulC_good fX fY f1 f0 (by grind) (by grind) (by rw [v1]; decide +kernel) (by rw [v0]; decide +kernel)
  rw [v1, v0] at e5 e6
  have be5 := abs_bounds e5
  have be6 := abs_bounds e6
  have hk := long_kept aX aY hO.l1 hO.l2 hO.one e1 e2
  have bk := abs_bounds hk
  obtain ⟨l, hl, fl, l0, _, l1, l2⟩ := longC_good ftx fty (by grind) (by grind)
  obtain ⟨m, hm, fm, m0, _, m1, m2⟩ := longC_good fX fY (by grind) (by grind)
  obtain ⟨L, hL, fL, vL⟩ := widen fl
  obtain ⟨M, hM, fM, vM⟩ := widen fm
  have xx := abs_bounds (abs_mul_le aX aX)
  have yy := abs_bounds (abs_mul_le aY aY)
  have sX := sq_nn (fval single (qw k1))
  have sY := sq_nn (fval single (qw k2))
  have hnear : (fval double L - fval double M).abs ≤ 1 / 10000 := by
    rw [vL, vM]
    by_cases hz : fval single (qw k1) = 0 ∧ fval single (qw k2) = 0
    · obtain ⟨t0, t1⟩ := zt hz.1 hz.2
      have r1 := small_root l0 l1 (by rw [t0, t1]; grind)
      have r2 := small_root m0 m1 (by rw [hz.1, hz.2]; grind)
      exact abs_le (by grind) (by grind)
    · have hbig : 1 / 16 ≤ fval single (qw k1) * fval single (qw k1) + fval single (qw k2) * fval single (qw k2) := by
        rcases zX with zX | zX <;> rcases zY with zY | zY
        · exact absurd ⟨zX, zY⟩ hz
        · grind
        · grind
        · grind
      apply long_near l0
      · rcases Rat.le_total (a := 1 / 5) (b := fval single m) with h | h
        · exact h
        · have a1 := Rat.mul_le_mul_of_nonneg_right h m0
          grind
      · grind
      · grind
  obtain ⟨g, hg, fg, vg⟩ := gap_small fL fM hnear
  refine ⟨(tx, ty), (bx, by_), (sx, sy), ⟨p, hp, ht⟩, ⟨q, hq, hb⟩, ⟨_, turn_none hi, hs⟩, ⟨ftx, fty⟩, ⟨fbx, fby⟩, ⟨fsx, fsy⟩, shortGap fbx fby fX fY n1 n2, shortGap fsx fsy fX fY (abs_le (by grind) (by grind)) (abs_le (by grind) (by grind)), ⟨l, m, L, M, g, hl, hm, hL, hM, hg, fg, vg⟩⟩

/-! ### Sums of quarters -/
structure Qr (w : Nat) (k : Int) : Prop where
  fin : fin single w
  val : fval single w = (k : Rat) * (1 / 4)

theorem rep_quarter {k : Int} (h : k.natAbs < 10000) : Rep single ((k : Rat) * (1 / 4)) := by
  refine ⟨k.natAbs, -2, ?_, by have : single.fractionBits = 23 := rfl; rw [this]; omega, by decide⟩
  have e : P2 (-2) = 1 / 4 := by decide +kernel
  rw [e, ← natAbs_abs]
  rcases Rat.le_total (a := 0) (b := (k : Rat)) with h | h
  · rw [Rat.abs_of_nonneg h, Rat.abs_of_nonneg (by grind)]
  · rw [Rat.abs_of_nonpos h, Rat.abs_of_nonpos (by grind)]; grind

theorem Qr.add {a b : Nat} {k l : Int} (ha : Qr a k) (hb : Qr b l) (h : (k + l).natAbs < 10000) : ∃ r, floatBits .add .f32 a b = some r ∧ Qr r (k + l) := by
  have e : fval single a + fval single b = ((k + l : Int) : Rat) * (1 / 4) := by rw [ha.val, hb.val, Rat.intCast_add]; grind
  have hR := rep_quarter h
  obtain ⟨r, hr, rr⟩ := add32 ha.fin hb.fin (by
    rw [e]
    have h1 : ((k + l : Int) : Rat).abs ≤ 10000 := by
      rw [natAbs_abs]
      have : (((k + l).natAbs : Nat) : Rat) ≤ ((10000 : Nat) : Rat) := by exact_mod_cast Nat.le_of_lt h
      exact this
    have := abs_bounds h1
    have := abs_le (v := ((k + l : Int) : Rat) * (1 / 4)) (b := 10000) (by grind) (by grind)
    unfold big; grind)
  rw [e] at rr
  exact ⟨r, hr, rr.fin, rr.exact hR⟩

theorem sum_good {ks : Nat → Nat} {n : Nat} (h : ∀ i, i < n → ks i < 9) : ∀ i, i ≤ n → i ≤ 8 → ∃ r K, sumW (fun i => qw (ks i)) i = some r ∧ Qr r K ∧ K.natAbs ≤ 4 * i := by
  intro i
  induction i with
  | zero => intro _ _; exact ⟨0, 0, rfl, ⟨by unfold fin; decide +kernel, by decide +kernel⟩, by decide⟩
  | succ i ih =>
    intro hi h8
    obtain ⟨r, K, hr, hq, hK⟩ := ih (by omega) (by omega)
    have hk := h i (by omega)
    have hw : Qr (qw (ks i)) ((ks i : Int) - 4) := ⟨qw_fin hk, (qw_good _ hk).2⟩
    obtain ⟨s, hs, hqs⟩ := hq.add hw (by omega)
    exact ⟨s, K + ((ks i : Int) - 4), by unfold sumW; rw [hr]; exact hs, hqs, by omega⟩

/-- The mean of one part: told, and scaled back it is near. -/
theorem mean_part {r n : Nat} {K : Int} (hq : Qr r K) (hK : K.natAbs ≤ 32) (h1 : 1 ≤ n) (h8 : n ≤ 8) :
    ∃ m s, floatBits .quo .f32 r (FloatKind.f32.nearest (n : Int)) = some m ∧ fin single m ∧ floatBits .mul .f32 m (FloatKind.f32.nearest (n : Int)) = some s ∧ fin single s ∧ (fval single s - fval single r).abs ≤ 1 / 100000 := by
  obtain ⟨fn, vn⟩ := ofInt .f32 (n : Int) (by show _ < 2 ^ 24; omega)
  have e : FloatKind.f32.format = single := rfl
  rw [e] at fn vn
  have en : (((n : Int)) : Rat) = ((n : Nat) : Rat) := rfl
  have n1 : (1 : Rat) ≤ ((n : Int) : Rat) := by exact_mod_cast h1
  have n8 : ((n : Int) : Rat) ≤ 8 := by exact_mod_cast h8
  have hKr : (K : Rat).abs ≤ 32 := by
    rw [natAbs_abs]
    have : ((K.natAbs : Nat) : Rat) ≤ ((32 : Nat) : Rat) := by exact_mod_cast hK
    exact this
  have bK := abs_bounds hKr
  have hr : (fval single r).abs ≤ 8 := by rw [hq.val]; exact abs_le (by grind) (by grind)
  obtain ⟨v, hv⟩ : ∃ v : Rat, v = fval single r / fval single (FloatKind.f32.nearest (n : Int)) := ⟨_, rfl⟩
  have hv2 : v * fval single (FloatKind.f32.nearest (n : Int)) = fval single r := by
    rw [hv]; exact Rat.div_mul_cancel (by rw [vn]; grind)
  rw [vn] at hv2
  have bv : v.abs ≤ 8 := by
    rcases Rat.le_total (a := 0) (b := v) with h | h
    · have a1 := Rat.mul_le_mul_of_nonneg_left n1 h
      have := abs_bounds hr
      exact abs_le (by grind) (by grind)
    · have a1 := Rat.mul_le_mul_of_nonneg_left n1 (show 0 ≤ -v by grind)
      have := abs_bounds hr
      exact abs_le (by grind) (by grind)
  obtain ⟨m, hm, rm⟩ := div32 hq.fin fn (by rw [vn]; grind) v (by rw [vn]; exact hv2) (by unfold big; grind)
  have nm := near_abs rm.near32 bv (by decide +kernel)
  have bm := abs_bounds nm
  have bbv := abs_bounds bv
  have lm : (fval single m).abs ≤ 9 := abs_le (by grind) (by grind)
  have nn : (((n : Int)) : Rat).abs ≤ 8 := by rw [Rat.abs_of_nonneg (by grind)]; exact n8
  have lmn := abs_mul_le lm nn
  obtain ⟨s, hs, rs⟩ := mul32 rm.fin fn (by rw [vn]; unfold big; grind)
  rw [vn] at rs
  have bb := abs_bounds hr
  -- m n is near r
  have hd := abs_bounds (abs_mul_le nm nn)
  have lmn2 : (fval single m * ((n : Int) : Rat)).abs ≤ 9 := abs_le (by grind) (by grind)
  have ns := abs_bounds (near_abs rs.near32 lmn2 (by decide +kernel))
  exact ⟨m, s, hm, rm.fin, hs, rs.fin, abs_le (by grind) (by grind)⟩
end Go.Flt
