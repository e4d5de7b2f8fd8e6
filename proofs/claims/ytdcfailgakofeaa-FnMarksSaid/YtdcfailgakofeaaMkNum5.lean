/-
  Plain facts: a list stitched with its own scaled end.
-/
import Derived.Test.YtdcfailgakofeaaMkNum4
namespace Go.Flt
open Ieee Go.Proofs.Ytdcfailgakofeaa

/-- The factor: halves from 1/2 to 2. -/
def byW (j : Nat) : Nat := (floatBits .quo .f32 (FloatKind.f32.nearest (1 + (j : Int))) 1073741824).getD 0
theorem byW_told : ∀ j : Nat, j < 4 → floatBits .quo .f32 (FloatKind.f32.nearest (1 + (j : Int))) 1073741824 = some (byW j) := by decide +kernel
theorem byW_good : ∀ j : Nat, j < 4 → (byW j < 2 * single.signWeight ∧ byW j % single.signWeight < single.infRung) ∧ fval single (byW j) = (j + 1 : Nat) * (1 / 2) := by decide +kernel

/-- The scaled end, with 3 behind it. -/
def tailW (xs : Nat → Nat) (n over b i : Nat) : Nat := if i < over then (floatBits .mul .f32 (xs (n - over + i)) b).getD 0 else 1077936128

theorem tail_good {xs : Nat → Nat} {n over b : Nat} {B : Rat} (h : Lst xs n) (ho : over ≤ n) (fb : fin single b) (vb : fval single b = B) (b1 : 1 / 2 ≤ B) (b2 : B ≤ 2) {i : Nat} (hi : i < over) :
    floatBits .mul .f32 (xs (n - over + i)) b = some (tailW xs n over b i) ∧ fin single (tailW xs n over b i) ∧ (fval single (tailW xs n over b i) - fval single (xs (n - over + i)) * B).abs ≤ 1 / 1000000 := by
  have a := h.abs (i := n - over + i) (by omega)
  have bb : (fval single b).abs ≤ 2 := by rw [vb]; exact Go.Flt.abs_le (by grind) (by grind)
  have ab := abs_mul_le a bb
  obtain ⟨r, hr, rr⟩ := mul32 (h.fin (i := n - over + i) (by omega)) fb (by unfold big; grind)
  have nr := near_abs rr.near32 ab (by decide +kernel)
  have e : tailW xs n over b i = r := by unfold tailW; rw [if_pos hi, hr]; rfl
  rw [e]
  rw [vb] at nr
  exact ⟨hr, rr.fin, by unfold u32 at nr; grind⟩

theorem sums_near {xs : Nat → Nat} {n over b : Nat} {B : Rat} (h : Lst xs n) (ho : over ≤ n) (h3 : over ≤ 3) (fb : fin single b) (vb : fval single b = B) (b1 : 1 / 2 ≤ B) (b2 : B ≤ 2) :
    ∀ i, i ≤ over → ∃ s t, sumW (fun i => xs (n - over + i)) i = some s ∧ sumW (tailW xs n over b) i = some t ∧ fin single s ∧ fin single t ∧ (i : Rat) * (1 / 4) ≤ fval single s ∧ fval single s ≤ (i : Rat) * 4 ∧ (fval single t - fval single s * B).abs ≤ (i : Rat) * (1 / 250000) := by
  intro i
  induction i with
  | zero =>
    intro _
    have e : ((0 : Nat) : Rat) = 0 := rfl
    refine ⟨0, 0, rfl, rfl, zero_fin, zero_fin, ?_, ?_, ?_⟩
    · rw [zero_val, e]; decide +kernel
    · rw [zero_val, e]; decide +kernel
    · rw [zero_val, e]; apply Go.Flt.abs_le <;> grind
  | succ i ih =>
    intro hi
    obtain ⟨s, t, hs, ht, fs, ft, l, u, d⟩ := ih (by omega)
    obtain ⟨m1, m2, m3⟩ := tail_good h ho fb vb b1 b2 (show i < over by omega)
    obtain ⟨r, K, hr, hq, k1, k2⟩ := (h.shift (k := n - over) (m := over) (by omega)).total (by omega) i (by omega)
    obtain rfl : s = r := Option.some.inj (hs.symm.trans hr)
    obtain ⟨r', K', hr', hq', k1', k2'⟩ := (h.shift (k := n - over) (m := over) (by omega)).total (by omega) (i + 1) hi
    have hadd : floatBits .add .f32 s (xs (n - over + i)) = some r' := by
      have := hr'; unfold sumW at this; rw [hs] at this; exact this
    have x1 := h.lo (i := n - over + i) (by omega)
    have x2 := h.hi (i := n - over + i) (by omega)
    have i3 : (i : Rat) ≤ 2 := nat_le (show i ≤ 2 by omega)
    have i0 : (0 : Rat) ≤ (i : Rat) := nat_le (Nat.zero_le i)
    have ei : ((i + 1 : Nat) : Rat) = (i : Rat) + 1 := by rw [Rat.natCast_add]; rfl
    obtain ⟨k, _, k16, kq⟩ := h.q (n - over + i) (by omega)
    obtain ⟨r2, hr2, q2⟩ := hq.add kq (by omega)
    obtain rfl : r' = r2 := Option.some.inj (hadd.symm.trans hr2)
    have hv : fval single r' = fval single s + fval single (xs (n - over + i)) := by rw [q2.val, hq.val, kq.val, Rat.intCast_add]; grind
    have sb : (fval single s).abs ≤ 8 := Go.Flt.abs_le (by grind) (by grind)
    have Bb : B.abs ≤ 2 := Go.Flt.abs_le (by grind) (by grind)
    have sB := abs_bounds (abs_mul_le sb Bb)
    have xB := abs_bounds (abs_mul_le (h.abs (i := n - over + i) (by omega)) Bb)
    have bd := abs_bounds d
    have bm := abs_bounds m3
    have sum30 : (fval single t + fval single (tailW xs n over b i)).abs ≤ 30 := Go.Flt.abs_le (by grind) (by grind)
    obtain ⟨t', ht', rt⟩ := add32 ft m2 (by unfold big; grind)
    have nt := abs_bounds (near_abs rt.near32 sum30 (by decide +kernel))
    refine ⟨r', t', hr', by unfold sumW; rw [ht]; exact ht', hq'.fin, rt.fin, by rw [hv, ei]; grind, by rw [hv, ei]; grind, ?_⟩
    rw [hv, ei]
    exact Go.Flt.abs_le (by unfold u32 at *; grind) (by unfold u32 at *; grind)

structure StitchOk (xs : Nat → Nat) (n over b s1 s2 q p g : Nat) : Prop where
  hs1 : sumW (fun i => xs (n - over + i)) over = some s1
  hs2 : sumW (tailW xs n over b) over = some s2
  hq : floatBits .quo .f32 s1 s2 = some q
  fq : fin single q
  st : Stitch xs (tailW xs n over b) q n (over + 1) over
  hp : floatBits .mul .f32 (stitchW xs (tailW xs n over b) q n (n - over) n) b = some p
  hg : gap8 p 1077936128 = some g
  og : (FloatKind.f64.format.order g c001 == some .gt) = false
  near : ∀ i, i < n → ∃ g, gap8 (stitchW xs (tailW xs n over b) q n (n - over) i) (xs i) = some g ∧ (FloatKind.f64.format.order g c001 == some .gt) = false

theorem stitch_good {xs : Nat → Nat} {n over b : Nat} {B : Rat} (h : Lst xs n) (ho1 : 1 ≤ over) (ho : over ≤ n) (h3 : over ≤ 3) (fb : fin single b) (vb : fval single b = B) (b1 : 1 / 2 ≤ B) (b2 : B ≤ 2) :
    ∃ s1 s2 q p g, StitchOk xs n over b s1 s2 q p g := by
  obtain ⟨s, t, hs, ht, fs, ft, l, u, d⟩ := sums_near h ho h3 fb vb b1 b2 over (Nat.le_refl _)
  have o3 : (over : Rat) ≤ 3 := nat_le h3
  have o1 : (1 : Rat) ≤ (over : Rat) := by exact_mod_cast ho1
  have bd := abs_bounds d
  have sb : (fval single s).abs ≤ 12 := Go.Flt.abs_le (by grind) (by grind)
  have Bb : B.abs ≤ 2 := Go.Flt.abs_le (by grind) (by grind)
  have sB := abs_bounds (abs_mul_le sb Bb)
  have sB1 := Rat.mul_le_mul_of_nonneg_left b1 (show 0 ≤ fval single s by grind)
  have t0 : 1 / 10 ≤ fval single t := by grind
  obtain ⟨v, hv⟩ : ∃ v : Rat, v = fval single s / fval single t := ⟨_, rfl⟩
  have hv2 : v * fval single t = fval single s := by rw [hv]; exact Rat.div_mul_cancel (by grind)
  have v0 : 0 ≤ v := by
    rcases Rat.le_total (a := 0) (b := v) with h | h
    · exact h
    · have := Rat.mul_nonneg (show 0 ≤ -v by grind) (show 0 ≤ fval single t by grind); grind
  -- t is near s B, so v B is near 1
  have k1 := Rat.mul_le_mul_of_nonneg_left (show fval single t ≤ fval single s * B + fval single s * (1 / 20000) by grind) v0
  have k2 := Rat.mul_le_mul_of_nonneg_left (show fval single s * B - fval single s * (1 / 20000) ≤ fval single t by grind) v0
  have v3 : v ≤ 3 := by
    apply Rat.le_of_mul_le_mul_right (c := fval single s) _ (by grind)
    have := Rat.mul_le_mul_of_nonneg_left sB1 v0
    grind
  have w1 : 1 ≤ v * (B + 1 / 20000) := by
    apply Rat.le_of_mul_le_mul_right (c := fval single s) _ (by grind)
    grind
  have w2 : v * (B - 1 / 20000) ≤ 1 := by
    apply Rat.le_of_mul_le_mul_right (c := fval single s) _ (by grind)
    grind
  obtain ⟨q, hq, rq⟩ := div32 fs ft (by grind) v hv2 (by rw [Rat.abs_of_nonneg v0]; unfold big; grind)
  have nq := abs_bounds (near_abs rq.near32 (show v.abs ≤ 3 by rw [Rat.abs_of_nonneg v0]; exact v3) (by decide +kernel))
  have qb : (fval single q).abs ≤ 4 := Go.Flt.abs_le (by unfold u32 at *; grind) (by unfold u32 at *; grind)
  -- q B is near 1
  have hqB : (fval single q * B - 1).abs ≤ 1 / 5000 := by
    have dq : (fval single q - v).abs ≤ 1 / 1000000 := Go.Flt.abs_le (by unfold u32 at *; grind) (by unfold u32 at *; grind)
    have := abs_bounds (abs_mul_le dq Bb)
    exact Go.Flt.abs_le (by grind) (by grind)
  have bq := abs_bounds hqB
  -- the scaled numbers
  have SC : ∀ i, i < over + 1 → ∃ y, floatBits .mul .f32 (tailW xs n over b i) q = some y ∧ fin single y ∧ (fval single y).abs ≤ 13 ∧ (i < over → (fval single y - fval single (xs (n - over + i))).abs ≤ 9 / 10000) ∧ (i = over → (fval single y - 3 * fval single q).abs ≤ 1 / 500000) := fun i hi => by
    by_cases ho' : i < over
    · obtain ⟨m1, m2, m3⟩ := tail_good h ho fb vb b1 b2 ho'
      have x1 := h.abs (i := n - over + i) (by omega)
      have bx := abs_bounds x1
      have xB := abs_bounds (abs_mul_le x1 Bb)
      have bm := abs_bounds m3
      have tb : (fval single (tailW xs n over b i)).abs ≤ 9 := Go.Flt.abs_le (by grind) (by grind)
      have tq := abs_mul_le tb qb
      obtain ⟨y, hy, ry⟩ := mul32 m2 rq.fin (by unfold big; grind)
      have ny := abs_bounds (near_abs ry.near32 tq (by decide +kernel))
      have e1 := abs_bounds (abs_mul_le m3 qb)
      have e2 := abs_bounds (abs_mul_le x1 hqB)
      have dn : (fval single y - fval single (xs (n - over + i))).abs ≤ 9 / 10000 := Go.Flt.abs_le (by unfold u32 at *; grind) (by unfold u32 at *; grind)
      have bdn := abs_bounds dn
      exact ⟨y, hy, ry.fin, Go.Flt.abs_le (by grind) (by grind), fun _ => dn, fun e => absurd e (by omega)⟩
    · have e : tailW xs n over b i = 1077936128 := by unfold tailW; rw [if_neg ho']
      rw [e]
      have bqb := abs_bounds qb
      have tq : (fval single 1077936128 * fval single q).abs ≤ 12 := by rw [three_val32.2]; exact Go.Flt.abs_le (by grind) (by grind)
      obtain ⟨y, hy, ry⟩ := mul32 three_val32.1 rq.fin (by unfold big; grind)
      have ny := abs_bounds (near_abs ry.near32 tq (by decide +kernel))
      rw [three_val32.2] at ny
      exact ⟨y, hy, ry.fin, Go.Flt.abs_le (by unfold u32 at *; grind) (by unfold u32 at *; grind), fun h => absurd h ho', fun _ => Go.Flt.abs_le (by unfold u32 at *; grind) (by unfold u32 at *; grind)⟩
  have SC2 : ∀ i, i < over + 1 → floatBits .mul .f32 (tailW xs n over b i) q = some (scalW (tailW xs n over b) q i) ∧ fin single (scalW (tailW xs n over b) q i) ∧ (fval single (scalW (tailW xs n over b) q i)).abs ≤ 13 ∧ (i < over → (fval single (scalW (tailW xs n over b) q i) - fval single (xs (n - over + i))).abs ≤ 9 / 10000) ∧ (i = over → (fval single (scalW (tailW xs n over b) q i) - 3 * fval single q).abs ≤ 1 / 500000) := fun i hi => by
    obtain ⟨y, hy, r⟩ := SC i hi
    have e : scalW (tailW xs n over b) q i = y := by unfold scalW; rw [hy]; rfl
    rw [e]; exact ⟨hy, r⟩
  have MID : ∀ i, i < over → ∃ s, floatBits .add .f32 (xs (n - over + i)) (scalW (tailW xs n over b) q i) = some s ∧ floatBits .mul .f32 1056964608 s = some (stitchW xs (tailW xs n over b) q n (n - over) (n - over + i)) ∧ fin single (stitchW xs (tailW xs n over b) q n (n - over) (n - over + i)) ∧ (fval single (stitchW xs (tailW xs n over b) q n (n - over) (n - over + i)) - fval single (xs (n - over + i))).abs ≤ 1 / 2000 := fun i hi => by
    obtain ⟨y1, y2, y3, y4, _⟩ := SC2 i (by omega)
    have x1 := h.abs (i := n - over + i) (by omega)
    have bx := abs_bounds x1
    have b4 := abs_bounds (y4 hi)
    obtain ⟨s, m, hs, hm, fs, fm, _, dm⟩ := mid_step (h.fin (i := n - over + i) (by omega)) y2 (by grind) (Go.Flt.abs_le (by grind) (by grind))
    have bm := abs_bounds dm
    have e : stitchW xs (tailW xs n over b) q n (n - over) (n - over + i) = m := by
      unfold stitchW
      rw [if_neg (by omega), if_pos (by omega)]
      unfold midW
      rw [show n - over + i - (n - over) = i by omega, hs, Option.bind_some, hm]; rfl
    rw [e]
    exact ⟨s, hs, hm, fm, Go.Flt.abs_le (by grind) (by grind)⟩
  have LOW : ∀ i, i < n - over → stitchW xs (tailW xs n over b) q n (n - over) i = xs i := fun i hi => by unfold stitchW; rw [if_pos hi]
  have TOP : stitchW xs (tailW xs n over b) q n (n - over) n = scalW (tailW xs n over b) q over := by
    unfold stitchW
    rw [if_neg (by omega), if_neg (by omega)]
    congr 1; omega
  obtain ⟨z1, z2, z3, _, z5⟩ := SC2 over (by omega)
  have bz := abs_bounds (z5 rfl)
  have bB : (fval single b).abs ≤ 2 := by rw [vb]; exact Bb
  have zb := abs_mul_le z3 bB
  obtain ⟨p, hp, rp⟩ := mul32 z2 fb (by unfold big; grind)
  have np := abs_bounds (near_abs rp.near32 zb (by decide +kernel))
  rw [vb] at np
  have e5 := abs_bounds (abs_mul_le (z5 rfl) Bb)
  obtain ⟨g, hg, og⟩ := gap_fine rp.fin three_val32.1 (d := 7 / 10000) (by rw [three_val32.2]; exact Go.Flt.abs_le (by unfold u32 at *; grind) (by unfold u32 at *; grind)) (by decide +kernel)
  refine ⟨s, t, q, p, g, hs, ht, hq, rq.fin, ⟨fun i hi => (SC2 i hi).1, fun i hi => by obtain ⟨s, a, b, _⟩ := MID i hi; exact ⟨s, a, b⟩, fun j hj => ?_⟩, by rw [TOP]; exact hp, hg, og, fun i hi => ?_⟩
  · by_cases h1 : j < n - over
    · rw [LOW j h1]; exact h.fin (by omega)
    · by_cases h2 : j < n
      · obtain ⟨_, _, _, f, _⟩ := MID (j - (n - over)) (by omega)
        rw [show n - over + (j - (n - over)) = j by omega] at f
        exact f
      · obtain rfl : j = n := by omega
        rw [TOP]; exact z2
  · by_cases h1 : i < n - over
    · rw [LOW i h1]
      exact gap_fine (h.fin hi) (h.fin hi) (d := 0) (by rw [Rat.sub_self]; decide +kernel) (by decide +kernel)
    · obtain ⟨_, _, _, f, d⟩ := MID (i - (n - over)) (by omega)
      rw [show n - over + (i - (n - over)) = i by omega] at f d
      exact gap_fine f (h.fin hi) d (by decide +kernel)
end Go.Flt
