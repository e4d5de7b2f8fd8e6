/-
  Walk: phases are drawn.
-/
import Derived.Test.YtdcfailgakofeaaWp3
namespace Go.Proofs.Ytdcfailgakofeaa
open Go.RowKit Go.Flt

/-- (k - 4) / 4. -/
def qw (k : Nat) : Nat := (floatBits .quo .f32 (FloatKind.f32.nearest ((k : Int) - 4)) 1082130432).getD 0
theorem qw_told : ∀ k : Nat, k < 9 → floatBits .quo .f32 (FloatKind.f32.nearest ((k : Int) - 4)) 1082130432 = some (qw k) := by decide +kernel
def qcx (p : Nat × Nat) : Value := .complex .f32 (qw p.1) (qw p.2)

/-- A source newly made. -/
def Made (w : World) (a : Option Addr) (len cap : Nat) (e : Ending) (w' : World) : Prop :=
  e = .returned (.pointer (some ⟨w.heap.size, 0, none⟩)) ∧ Src w' w.heap.size a len cap 0 0 ∧ Below w.heap.size w w' ∧ w.heap.size + 1 ≤ w'.heap.size

set_option maxHeartbeats 1600000 in
theorem from_any (a : Option Addr) (len cap : Nat) (w : World) : Calls Try.prog 47 #[.slice a len cap] w (Made w a len cap) := by
  obtain ⟨i0, hi, hz0, hz1, hz2⟩ := info_parts info93
  go_enter Try.func47, Try.ntmps47
  go_wp2
  go_ret
  exact ⟨rfl, ⟨heap_alloc_new w _, by decide, by decide⟩, (Below.refl _ _).alloc (Nat.le_refl _) _, by simp⟩

theorem own_le {w : World} {b b' : Nat} {e : TypeId} {size : Nat} {v : Value} {n : Nat} {xs : List Value} (h : w.ownsRow b e size v n xs) (hb : b' ≤ b) : w.ownsRow b' e size v n xs := by
  refine ⟨h.1, ?_⟩
  rcases h.2 with h1 | ⟨g, cap, cur, h1, h2, h3⟩
  · exact Or.inl h1
  · exact Or.inr ⟨g, cap, cur, h1, Nat.le_trans hb h2, h3⟩

/-- Phases drawn. -/
def Phases (w : World) (n : Nat) (e : Ending) (w' : World) : Prop :=
  ∃ (ks : List (Nat × Nat)) (a : Option Addr) (c : Nat), ks.length = n ∧ (∀ p ∈ ks, p.1 < 9 ∧ p.2 < 9) ∧ e = .returned (.slice a n c) ∧ w'.ownsRow w.heap.size 30 1 (.slice a n c) n (ks.map qcx) ∧ Below w.heap.size w w'

theorem Bytes.below {w w' : World} {a : Option Addr} {len : Nat} {z : Nat → Int} (h : Bytes w a len z) (hb : Below w.heap.size w w') : Bytes w' a len z := ⟨h.1.below hb, h.2⟩
set_option maxHeartbeats 3200000 in
set_option maxRecDepth 100000 in
theorem phases_any (a : Option Addr) (len cap n : Nat) (z : Nat → Int) (w : World) (hn : n ≤ 8) (hb : Bytes w a len z) (hl : len ≤ 1048576) :
    Calls Try.prog 10 #[.slice a len cap, .int .i64 n] w (Phases w n) := by
  obtain ⟨i0, hi, hz0, hz1, hz2⟩ := info_parts info30
  have HB := Lib.hid hb
  have F := Lib.hid (from_any a len cap w)
  clear hb
  obtain ⟨g, hgw⟩ : ∃ g, g = w.heap.size := ⟨_, rfl⟩
  have HG := Lib.hid hgw
  clear hgw
  go_enter Try.func10, Try.ntmps10
  go_wp2_with fail
  refine F.out.mono ?_
  rintro e w1 ⟨rfl, s1, b1, z1⟩
  rw [← HG.out] at s1 b1 z1
  rw [← HG.out]
  go_wp2
  have hown0 := World.ownsRow_made (base := g + 1) (e := 30) (size := 1) w1 #[] 0 z1 (by decide) rfl
  have S1 := Lib.hid (show Src (w1.alloc (.cells #[] 30)) g a len cap (2 * 0) 0 from ⟨(Below.heap_alloc w1 _ g (by omega)).trans s1.1, s1.2⟩)
  have B1 := Lib.hid (b1.alloc (by omega) (.cells #[] 30))
  clear s1 b1 F
  go_loopw [1, 6] (fun cc v wr => ∃ (k : Nat) (acc : List (Nat × Nat)) (sd : Int), k ≤ n ∧ cc = .int .i64 ((n : Int) - (k : Int)) ∧ Hid (acc.length = k ∧ ∀ p ∈ acc, p.1 < 9 ∧ p.2 < 9) ∧ wr.ownsRow (g + 1) 30 1 v acc.length (acc.map qcx) ∧ Hid (Src wr g a len cap (2 * k) sd) ∧ Hid (Below g w wr) ∧ Hid (g + 1 ≤ wr.heap.size)) (fun cc _ _ => (intOf cc).toNat)
  case atStart => exact ⟨0, [], 0, by omega, by simp, ⟨rfl, fun p hp => by cases hp⟩, hown0, S1.out, B1.out, (by unfold Hid; simp; omega)⟩
  case round =>
    obtain ⟨k, acc, sd, hk, rfl, hacc, hown, hsrc, hbel, hsize⟩ := hrel
    by_cases hlt : k < n
    · obtain ⟨wo, rfl⟩ : ∃ wo : World, wo = wr := ⟨_, rfl⟩
      have hpos : 0 < (n : Int) - (k : Int) := by omega
      have hbw : Bytes wo a len z := HB.out.below (by have := hbel.out; rw [HG.out] at this; exact this)
      have P := Lib.hid (pick_any g a len cap (2 * k) sd z 9 wo hsrc.out hbw hl (by omega) (by decide) (by decide))
      go_wp2_with fail
      refine P.out.mono ?_
      rintro e w3 ⟨x, sd3, rfl, hx0, hx1, hs3, hg3⟩
      obtain ⟨x1, rfl⟩ : ∃ m : Nat, x = (m : Int) := ⟨x.toNat, by omega⟩
      have hown3 := hown.kept hg3 (Or.inr (fun e => by have := hown.lt g e; omega))
      have hb3 := Lib.hid (hbel.out.grown hg3 (by have := hsize.out; omega) (fun j hj => by cases hj; exact Nat.le_refl _))
      have hk1 := qw_told x1 (by omega)
      have a1 : ∀ w, (binOp .quo 27 (.float .f32 (floatOfInt .f32 ((x1 : Int) - 4))) (.float .f32 1082130432)).run Try.prog w = .ok (.float .f32 (qw x1)) w := ar hk1 27
      have hbw3 : Bytes w3 a len z := HB.out.below (by have := hb3.out; rw [HG.out] at this; exact this)
      have P3 := Lib.hid (pick_any g a len cap (2 * k + 1) sd3 z 9 w3 hs3 hbw3 hl (by omega) (by decide) (by decide))
      have HO3 := Lib.hid hown3
      have HS3 := Lib.hid (hg3.size)
      clear hk1 hown hg3 hs3 hbw3 hbw P hown3
      go_wp2_with fail
      refine P3.out.mono ?_
      rintro e w4 ⟨x, sd4, rfl, hy0, hy1, hs4, hg4⟩
      obtain ⟨x2, rfl⟩ : ∃ m : Nat, x = (m : Int) := ⟨x.toNat, by omega⟩
      have hown4 := HO3.out.kept hg4 (Or.inr (fun e => by have := HO3.out.lt g e; omega))
      have hb4 := Lib.hid (hb3.out.grown hg4 (by have := hsize.out; have := HS3.out; omega) (fun j hj => by cases hj; exact Nat.le_refl _))
      have hsz4 : g + 1 ≤ w4.heap.size := by have := hsize.out; have := HS3.out; have := hg4.size; omega
      have hk2 := qw_told x2 (by omega)
      have a2 : ∀ w, (binOp .quo 27 (.float .f32 (floatOfInt .f32 ((x2 : Int) - 4))) (.float .f32 1082130432)).run Try.prog w = .ok (.float .f32 (qw x2)) w := ar hk2 27
      have HS4 := Lib.hid hs4
      have hacl : acc.length = k := hacc.out.1
      clear hk2 HO3 hg4 P3 hs4
      go_wp2_with (at_builtin; refine wpList_append_own _ rfl _ _ 25 rfl (g + 1) 30 i0 (.complex .f32 0 0) 1 8 Try.underlying25 hi hz0 hz1 hz2 rfl (by decide) _ _ _ rfl (hown4.alloc _) ⟨w4.heap.size, 0, none⟩ 1 1 [.complex .f32 (qw x1) (qw x2)] rfl rfl ?c1 ?c2 ?c3 ?c4 ?c5 ?_)
      case c1 => exact cell_one_new _ _ _
      case c2 => simp [Value.oneCell']
      case c3 => unfold maxLen; omega
      case c4 => omega
      case c5 => simp; omega
      intro v' w5 hown' hgrow _
      have hb5 := Lib.hid ((hb4.out.alloc (by omega) _).grown hgrow (by simp; omega) (fun j hj => by have := (hown4.lt j hj).1; omega))
      have hs5 : Src w5 g a len cap (2 * (k + 1)) sd4 := by
        refine ⟨?_, HS4.out.2⟩
        rw [hgrow.block g (by simp; omega) (by intro e; have := (hown4.lt g e.symm).1; omega)]
        exact (Below.heap_alloc w4 _ g (by omega)).trans HS4.out.1
      have HS5 := Lib.hid hs5
      have HG5 : Hid (g + 1 ≤ w5.heap.size) := by have := hgrow.size; unfold Hid; simp at this; omega
      clear hgrow hown4 hb4 hs5
      go_wp2
      go_roundw
      case rel => exact ⟨k + 1, acc ++ [(x1, x2)], sd4, by omega, by go_num, ⟨by simp [hacl], fun p hp => by
          rw [List.mem_append] at hp
          rcases hp with hp | hp
          · exact hacc.out.2 p hp
          · rw [List.mem_singleton.1 hp]; exact ⟨by omega, by omega⟩⟩, by rw [show (acc ++ [(x1, x2)]).length = k + 1 by simp [hacl]]; simpa [qcx] using hown', HS5.out, hb5.out, HG5.out⟩
      case measure => simp [intOf]; omega
    · obtain rfl : k = n := by omega
      have hacl : acc.length = k := hacc.out.1
      have hpos : ¬ 0 < (k : Int) - (k : Int) := by omega
      have hfin : ∃ av c, u6 = .slice av k c := by
        rcases hown.2 with ⟨h1, h2⟩ | ⟨g', cap', cur, h1, _⟩
        · exact ⟨none, 0, by rw [h1]; congr 1; omega⟩
        · exact ⟨_, _, by rw [h1, hacl]⟩
      obtain ⟨av, c, rfl⟩ := hfin
      rw [hacl] at hown
      have HO := Lib.hid (own_le hown (show w.heap.size ≤ g + 1 by have := HG.out; omega))
      have hbb := hbel.out
      rw [HG.out] at hbb
      have HBB := Lib.hid hbb
      clear hown hbb
      go_wp2
      go_ret
      exact ⟨acc, av, c, hacc.out.1, hacc.out.2, rfl, HO.out, HBB.out⟩
end Go.Proofs.Ytdcfailgakofeaa
