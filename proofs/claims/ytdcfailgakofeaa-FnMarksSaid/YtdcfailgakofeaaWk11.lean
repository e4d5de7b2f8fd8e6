/-
  The law's own loops over rows: a copy of a list of numbers; marks written into a row; marks found in a row.
-/
import Derived.Test.YtdcfailgakofeaaWk10
namespace Go.Proofs.Ytdcfailgakofeaa
open Go.RowKit Go.Flt

theorem info27 : (Try.prog.info? 27).map (fun i => (i.zero, i.size, i.bytes)) = some (some (.float .f32 0), 1, 4) := by kernel_rfl

theorem run_store_float (a : Addr) (k : FloatKind) (x : Nat) (w : World) : (store a (.float k x)).run Try.prog w = Go.stored Try.prog w a (.float k x) .plain := run_store Try.prog w a _ .plain rfl
theorem run_store_complex (a : Addr) (k : FloatKind) (x y : Nat) (w : World) : (store a (.complex k x y)).run Try.prog w = Go.stored Try.prog w a (.complex k x y) .plain := run_store Try.prog w a _ .plain rfl

/-- Values from 0 on, of which the first k are f's. -/
def fills (f g : Nat → Value) (k n : Nat) : List Value := (List.range n).map fun i => if i < k then f i else g i
theorem fills_length (f g : Nat → Value) (k n : Nat) : (fills f g k n).length = n := by simp [fills]
theorem fills_at (f g : Nat → Value) {k n i : Nat} (h : i < n) : (fills f g k n)[i]? = some (if i < k then f i else g i) := by simp [fills, h]
theorem fills_set (f g : Nat → Value) (k n : Nat) : (fills f g k n).set k (f k) = fills f g (k + 1) n := by
  apply List.ext_getElem?
  intro i
  by_cases hi : i < n
  · by_cases hk : i = k
    · subst hk
      rw [fills_at _ _ hi, List.getElem?_set_self (by simpa [fills] using hi), if_pos (by omega)]
    · rw [List.getElem?_set_ne (Ne.symm hk), fills_at _ _ hi, fills_at _ _ hi]
      by_cases h : i < k
      · rw [if_pos h, if_pos (by omega)]
      · rw [if_neg h, if_neg (by omega)]
  · rw [List.getElem?_eq_none (by simp [fills]; omega), List.getElem?_eq_none (by simp [fills]; omega)]
theorem fills_zero (f g : Nat → Value) (n : Nat) : fills f g 0 n = (List.range n).map g := by simp [fills]
theorem fills_all (f g : Nat → Value) (n : Nat) : fills f g n n = (List.range n).map f := by
  unfold fills
  apply List.map_congr_left
  intro i hi
  rw [if_pos (List.mem_range.1 hi)]

/-- What an owned row of one cell an element looks like. -/
theorem own_row {w : World} {base : Nat} {e : TypeId} {v : Value} {n : Nat} {f : Nat → Value} (h : w.ownsRow base e 1 v n ((List.range n).map f)) :
    ∃ a c, v = .slice a n c ∧ Row w a n f := by
  rcases h.2 with ⟨h1, h2⟩ | ⟨g, cap, cur, h1, _⟩
  · obtain rfl : n = 0 := by simpa using h2
    exact ⟨none, 0, h1, fun i hi => absurd hi (by omega)⟩
  · subst h1
    refine ⟨_, _, rfl, fun i hi => ⟨g, 0, rfl, ?_⟩⟩
    rw [Nat.zero_add, h.cellAt i (by simpa using hi)]
    simp [hi]

/-- A fresh copy. -/
def Copied (w : World) (n : Nat) (f : Nat → Value) (e : Ending) (w' : World) : Prop :=
  ∃ v, e = .returned v ∧ w'.ownsRow w.heap.size 27 1 v n ((List.range n).map f) ∧ Below w.heap.size w w'

set_option maxHeartbeats 1600000 in
set_option maxRecDepth 100000 in
theorem copy32_any (a : Option Addr) (n cap : Nat) (xs : Nat → Nat) (w : World) (hn : n ≤ 1048576) (hr : Row w a n fun i => .float .f32 (xs i)) :
    Calls Try.prog 27 #[.slice a n cap] w (Copied w n fun i => .float .f32 (xs i)) := by
  have HR := Lib.hid hr
  obtain ⟨i0, hi, hz0, hz1, hz2⟩ := info_parts info27
  clear hr
  obtain ⟨w1, hrun, hown, hgrow⟩ := run_make_full (P := Try.prog) w w.heap.size 37 27 i0 (.float .f32 0) 1 Try.underlying37 hi hz0 hz1 .i64 .i64 n (by rw [hz2]; omega) (by unfold maxLen; omega) (Nat.le_refl _)
  have hb1 : Below w.heap.size w w1 := (Below.refl _ _).grown hgrow (Nat.le_refl _) (fun k hk => by cases hk)
  have hown0 : w1.ownsRow w.heap.size 27 1 (.slice (some ⟨w.heap.size, 0, none⟩) n n) n (fills (fun i => .float .f32 (xs i)) (fun _ => .float .f32 0) 0 n) := by
    have e : (madeCells (Value.float .f32 0).cells (n * 1)).toList = fills (fun i => .float .f32 (xs i)) (fun _ => .float .f32 0) 0 n := by
      rw [fills_zero, Nat.mul_one]
      show (madeCells #[Value.float .f32 0] n).toList = _
      rw [toList_madeCells_one]
      apply List.ext_getElem <;> simp
    rw [← e]; exact hown
  obtain ⟨g, hg⟩ : ∃ g, g = w.heap.size := ⟨_, rfl⟩
  rw [← hg] at hown0 hb1 hrun
  have HO := Lib.hid hown0
  have HB := Lib.hid hb1
  have rs := run_store_float
  have hG := Lib.hid hg
  clear hg hown hgrow hown0 hb1 hi hz0 hz1 hz2
  go_enter Try.func27, Try.ntmps27
  go_wp2
  go_loopw [4] (fun i wr => ∃ k : Nat, k ≤ n ∧ i = .int .i64 k ∧ Hid (wr.ownsRow g 27 1 (.slice (some ⟨g, 0, none⟩) n n) n (fills (fun i => .float .f32 (xs i)) (fun _ => .float .f32 0) k n)) ∧ Hid (Below g w wr)) (fun i _ => n - (intOf i).toNat)
  case atStart => exact ⟨0, Nat.zero_le _, rfl, HO.out, HB.out⟩
  case round =>
    obtain ⟨k, hk, rfl, ho, hb⟩ := hrel
    by_cases hlt : k < n
    · obtain ⟨b1, o1, rfl, hc01⟩ := HR.out k hlt
      have hlb := World.block_lt_of_cell? w _ hc01
      have hc1 : wr.cell? ⟨b1, o1 + k, none⟩ = some (.float .f32 (xs k)) := (hb.out.cell (p := ⟨b1, o1 + k, none⟩) (by rw [hG.out]; exact hlb)).trans hc01
      have hc2 : ∃ u, wr.cell? ⟨g, k, none⟩ = some u := by
        rw [ho.out.cellAt k (by omega), fills_at _ _ hlt]; exact ⟨_, rfl⟩
      obtain ⟨u, hc2⟩ := hc2
      have hf2 : wr.frozen? ⟨g, k, none⟩ = false := ho.out.frozenAt k
      have hst := ho.out.stored k (.float .f32 (xs k))
      rw [fills_set (fun i => Value.float .f32 (xs i))] at hst
      have HST := Lib.hid hst.1
      have HB := Lib.hid (hb.out.setCell (p := ⟨g, k, none⟩) (Nat.le_refl _) (.float .f32 (xs k)))
      clear hc01 hlb hst
      go_wp2
      go_roundw
      case rel => exact ⟨k + 1, by omega, by go_num, HST.out, HB.out⟩
      case measure => simp [intOf]; omega
    · obtain rfl : k = n := by omega
      have e := fills_all (fun i => Value.float .f32 (xs i)) (fun _ => .float .f32 0) k
      have h1 := ho.out
      rw [e] at h1
      have H1 := Lib.hid h1
      clear h1 ho e
      go_wp2
      go_ret
      obtain rfl := hG.out
      exact ⟨_, rfl, H1.out, hb.out⟩

/-- A mark. -/
def mark32 (k : Nat) : Value := .float .f32 (floatOfInt .f32 k)

/-- A row filled with marks. -/
def Marked (w : World) (base : Nat) (e : TypeId) (v : Value) (n k : Nat) (f : Nat → Value) (en : Ending) (w' : World) : Prop :=
  en = .returned (.int .i64 ((k + n : Nat) : Int)) ∧ w'.ownsRow base e 1 v n ((List.range n).map f) ∧ w.grownBy w' v.ownBlock

theorem grownBy_trans {w w' w'' : World} {row : Option Nat} (h : w.grownBy w' row) (h2 : w'.grownBy w'' row) : w.grownBy w'' row :=
  ⟨h2.os.trans h.os, h2.tape.trans h.tape, h2.output.trans h.output, Nat.le_trans h.size h2.size, fun k hk hne => (h2.block k (Nat.lt_of_lt_of_le hk h.size) hne).trans (h.block k hk hne)⟩

set_option maxHeartbeats 1600000 in
set_option maxRecDepth 100000 in
theorem mark32_any (base n m : Nat) (f : Nat → Value) (v : Value) (w : World) (hn : n ≤ 1048576) (hm : m ≤ 4) (hown : w.ownsRow base 27 1 v n ((List.range n).map f)) :
    Calls Try.prog 31 #[v, .int .i64 m] w (Marked w base 27 v n m fun i => mark32 (m + i)) := by
  obtain ⟨a, c, rfl, hrow⟩ := own_row hown
  have H0 : w.ownsRow base 27 1 (.slice a n c) n (fills (fun i => mark32 (m + i)) f 0 n) := by rw [fills_zero]; exact hown
  have HR : Hid (∀ k, k < n → ∃ g, a = some ⟨g, 0, none⟩) := fun k hk => by
    rcases hown.2 with ⟨h1, h2⟩ | ⟨g, cap, cur, h1, _⟩
    · omega
    · injection h1 with h1; exact ⟨g, h1⟩
  clear hown hrow
  obtain ⟨W0, hW0⟩ : ∃ W0, W0 = w := ⟨w, rfl⟩
  have rs := run_store_float
  go_enter Try.func31, Try.ntmps31
  go_wp2
  go_loopw [1, 5] (fun j i wr => ∃ k : Nat, k ≤ n ∧ i = .int .i64 k ∧ j = .int .i64 ((m + k : Nat) : Int) ∧ Hid (wr.ownsRow base 27 1 (.slice a n c) n (fills (fun i => mark32 (m + i)) f k n)) ∧ Hid (W0.grownBy wr (Value.slice a n c).ownBlock)) (fun _ i _ => n - (intOf i).toNat)
  case atStart => exact ⟨0, Nat.zero_le _, rfl, rfl, H0, by subst hW0; exact World.grownBy.refl _ _⟩
  case round =>
    obtain ⟨k, hk, rfl, rfl, ho, hb⟩ := hrel
    by_cases hlt : k < n
    · obtain ⟨g, rfl⟩ := HR.out k hlt
      have hc2 : ∃ u, wr.cell? ⟨g, k, none⟩ = some u := by
        rw [ho.out.cellAt k (by omega), fills_at _ _ hlt]; exact ⟨_, rfl⟩
      obtain ⟨u, hc2⟩ := hc2
      have hf2 : wr.frozen? ⟨g, k, none⟩ = false := ho.out.frozenAt k
      have hst := ho.out.stored k (mark32 (m + k))
      rw [fills_set (fun i => mark32 (m + i))] at hst
      have HST := Lib.hid hst.1
      have HB := Lib.hid (grownBy_trans hb.out hst.2)
      clear hst
      go_wp2
      go_roundw
      case rel => exact ⟨k + 1, by omega, by go_num, by go_num, HST.out, HB.out⟩
      case measure => simp [intOf]; omega
    · obtain rfl : k = n := by omega
      have e := fills_all (fun i => mark32 (m + i)) f k
      have h1 := ho.out
      rw [e] at h1
      have H1 := Lib.hid h1
      clear h1 ho e
      go_wp2
      go_ret
      subst hW0
      exact ⟨rfl, H1.out, hb.out⟩

/-- A mark as a complex number. -/
def mkNat (k : Nat) : Nat := (floatToFloatBits .f64 (floatOfInt .f64 k) .f32).getD 0
def markC (k : Nat) : Value := .complex .f32 (mkNat k) 1065353216

theorem mk_some {k : Nat} (h : k ≤ 2097152) : floatToFloatBits .f64 (floatOfInt .f64 k) .f32 = some (mkNat k) ∧ fin Ieee.single (mkNat k) := by
  obtain ⟨h1, h2⟩ := ofInt .f64 (k : Int) (by show _ < 2 ^ 53; omega)
  have e : FloatKind.f64.format = Ieee.double := rfl
  rw [e] at h1 h2
  obtain ⟨r, hr, hR⟩ := narrow (x := FloatKind.f64.nearest (k : Int)) h1 (by
    rw [h2, natAbs_abs]
    have h3 : ((k : Int).natAbs : Rat) ≤ ((2097152 : Nat) : Rat) := by exact_mod_cast (show (k : Int).natAbs ≤ 2097152 by omega)
    have h4 : ((2097152 : Nat) : Rat) < P2 127 := by decide +kernel
    grind)
  have e2 : floatOfInt .f64 (k : Int) = FloatKind.f64.nearest (k : Int) := rfl
  unfold mkNat
  rw [e2, hr]
  exact ⟨rfl, hR.fin⟩

theorem one_some : floatToFloatBits .f64 4607182418800017408 .f32 = some 1065353216 := by decide +kernel

theorem run_markC {k : Nat} (h : k ≤ 2097152) (w : World) : (convert 84 30 (.complex .f64 (floatOfInt .f64 k) 4607182418800017408)).run Try.prog w = .ok (.complex .f32 (mkNat k) 1065353216) w :=
  run_convert_complex w 84 30 .f64 .f32 _ _ _ _ (by rw [Try.underlying84]; rfl) Try.underlying30 (by unfold cConvBits; rw [(mk_some h).1, one_some]; rfl)

set_option maxHeartbeats 1600000 in
set_option maxRecDepth 100000 in
theorem markC_any (base n m : Nat) (f : Nat → Value) (v : Value) (w : World) (hn : n ≤ 1048576) (hm : m ≤ 4) (hown : w.ownsRow base 30 1 v n ((List.range n).map f)) :
    Calls Try.prog 32 #[v, .int .i64 m] w (Marked w base 30 v n m fun i => markC (m + i)) := by
  obtain ⟨a, c, rfl, hrow⟩ := own_row hown
  have H0 : w.ownsRow base 30 1 (.slice a n c) n (fills (fun i => markC (m + i)) f 0 n) := by rw [fills_zero]; exact hown
  have HR : Hid (∀ k, k < n → ∃ g, a = some ⟨g, 0, none⟩) := fun k hk => by
    rcases hown.2 with ⟨h1, h2⟩ | ⟨g, cap, cur, h1, _⟩
    · omega
    · injection h1 with h1; exact ⟨g, h1⟩
  clear hown hrow
  obtain ⟨W0, hW0⟩ : ∃ W0, W0 = w := ⟨w, rfl⟩
  have rs := run_store_complex
  go_enter Try.func32, Try.ntmps32
  go_wp2
  go_loopw [1, 5] (fun j i wr => ∃ k : Nat, k ≤ n ∧ i = .int .i64 k ∧ j = .int .i64 ((m + k : Nat) : Int) ∧ Hid (wr.ownsRow base 30 1 (.slice a n c) n (fills (fun i => markC (m + i)) f k n)) ∧ Hid (W0.grownBy wr (Value.slice a n c).ownBlock)) (fun _ i _ => n - (intOf i).toNat)
  case atStart => exact ⟨0, Nat.zero_le _, rfl, rfl, H0, by subst hW0; exact World.grownBy.refl _ _⟩
  case round =>
    obtain ⟨k, hk, rfl, rfl, ho, hb⟩ := hrel
    by_cases hlt : k < n
    · obtain ⟨g, rfl⟩ := HR.out k hlt
      have hc2 : ∃ u, wr.cell? ⟨g, k, none⟩ = some u := by
        rw [ho.out.cellAt k (by omega), fills_at _ _ hlt]; exact ⟨_, rfl⟩
      obtain ⟨u, hc2⟩ := hc2
      have hf2 : wr.frozen? ⟨g, k, none⟩ = false := ho.out.frozenAt k
      have hst := ho.out.stored k (markC (m + k))
      rw [fills_set (fun i => markC (m + i))] at hst
      have HST := Lib.hid hst.1
      have HB := Lib.hid (grownBy_trans hb.out hst.2)
      have a1 := fun w => run_markC (k := m + k) (by omega) w
      rw [Int.natCast_add] at a1
      clear hst
      go_wp2
      go_roundw
      case rel => exact ⟨k + 1, by omega, by go_num, by go_num, HST.out, HB.out⟩
      case measure => simp [intOf]; omega
    · obtain rfl : k = n := by omega
      have e := fills_all (fun i => markC (m + i)) f k
      have h1 := ho.out
      rw [e] at h1
      have H1 := Lib.hid h1
      clear h1 ho e
      go_wp2
      go_ret
      subst hW0
      exact ⟨rfl, H1.out, hb.out⟩
end Go.Proofs.Ytdcfailgakofeaa
