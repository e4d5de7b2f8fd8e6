/-
  Walks: lists drawn from the source. (Printed by wip/mkdraw.py.)
-/
import Derived.Test.YtdcfailgakofeaaMk3
namespace Go.Proofs.Ytdcfailgakofeaa
open Go.RowKit Go.Flt

/-- R8Above's words. -/
def qa (k : Nat) : Nat := (floatBits .quo .f32 (FloatKind.f32.nearest (1 + (k : Int))) 1082130432).getD 0
theorem qa_told : ∀ k : Nat, k < 16 → floatBits .quo .f32 (FloatKind.f32.nearest (1 + (k : Int))) 1082130432 = some (qa k) := by decide +kernel

/-- A list drawn by R8Above. -/
def Drawn_qa (w : World) (n : Nat) (e : Ending) (w' : World) : Prop := ∃ ks : Nat → Nat, (∀ i, i < n → ks i < 16) ∧ FNew w n (fun i => qa (ks i)) e w'

set_option maxHeartbeats 3200000 in
set_option maxRecDepth 100000 in
theorem draw_qa (a : Option Addr) (len cap n : Nat) (z : Nat → Int) (w : World) (hn : n ≤ 14) (hb : Bytes w a len z) (hl : len ≤ 1048576) :
    Calls Try.prog 18 #[.slice a len cap, .int .i64 n] w (Drawn_qa w n) := by
  obtain ⟨i0, hi, hz0, hz1, hz2⟩ := info_parts info27
  have HB := Lib.hid hb
  have F := Lib.hid (from_any a len cap w)
  clear hb
  obtain ⟨g, hgw⟩ : ∃ g, g = w.heap.size := ⟨_, rfl⟩
  have HG := Lib.hid hgw
  clear hgw
  go_enter Try.func18, Try.ntmps18
  go_wp2_with fail
  refine F.out.mono ?_
  rintro e w1 ⟨rfl, s1, b1, z1⟩
  rw [← HG.out] at s1 b1 z1
  rw [← HG.out]
  go_wp2
  have hown0 := World.ownsRow_made (base := g + 1) (e := 27) (size := 1) w1 #[] 0 z1 (by decide) rfl
  have S1 := Lib.hid (show Src (w1.alloc (.cells #[] 27)) g a len cap 0 0 from ⟨(Below.heap_alloc w1 _ g (by omega)).trans s1.1, s1.2⟩)
  have B1 := Lib.hid (b1.alloc (by omega) (.cells #[] 27))
  clear s1 b1 F
  go_loopw [1, 6] (fun cc v wr => ∃ (k : Nat) (acc : List Nat) (sd : Int), k ≤ n ∧ cc = .int .i64 ((n : Int) - (k : Int)) ∧ Hid (acc.length = k ∧ ∀ p ∈ acc, p < 16) ∧ wr.ownsRow (g + 1) 27 1 v acc.length (acc.map fun p => .float .f32 (qa p)) ∧ Hid (Src wr g a len cap k sd) ∧ Hid (Below g w wr) ∧ Hid (g + 1 ≤ wr.heap.size)) (fun cc _ _ => (intOf cc).toNat)
  case atStart => exact ⟨0, [], 0, by omega, by simp, ⟨rfl, fun p hp => by cases hp⟩, hown0, S1.out, B1.out, (by unfold Hid; simp; omega)⟩
  case round =>
    obtain ⟨k, acc, sd, hk, rfl, hacc, hown, hsrc, hbel, hsize⟩ := hrel
    by_cases hlt : k < n
    · obtain ⟨wo, rfl⟩ : ∃ wo : World, wo = wr := ⟨_, rfl⟩
      have hpos : 0 < (n : Int) - (k : Int) := by omega
      have hbw : Bytes wo a len z := HB.out.below (by have := hbel.out; rw [HG.out] at this; exact this)
      have P := Lib.hid (pick_any g a len cap k sd z 16 wo hsrc.out hbw hl (by omega) (by decide) (by decide))
      go_wp2_with fail
      refine P.out.mono ?_
      rintro e w4 ⟨x, sd4, rfl, hy0, hy1, hs4, hg4⟩
      obtain ⟨x2, rfl⟩ : ∃ m : Nat, x = (m : Int) := ⟨x.toNat, by omega⟩
      have hown4 := hown.kept hg4 (Or.inr (fun e => by have := hown.lt g e; omega))
      have hb4 := Lib.hid (hbel.out.grown hg4 (by have := hsize.out; omega) (fun j hj => by cases hj; exact Nat.le_refl _))
      have hsz4 : g + 1 ≤ w4.heap.size := by have := hsize.out; have := hg4.size; omega
      have hk2 := qa_told x2 (by omega)
      have a2 : ∀ w, (binOp .quo 27 (.float .f32 (floatOfInt .f32 (1 + (x2 : Int)))) (.float .f32 1082130432)).run Try.prog w = .ok (.float .f32 (qa x2)) w := ar hk2 27
      have HS4 := Lib.hid hs4
      have hacl : acc.length = k := hacc.out.1
      clear hk2 hown hg4 P hs4 hbw
      go_wp2_with (at_builtin; refine wpList_append_own _ rfl _ _ 37 rfl (g + 1) 27 i0 (.float .f32 0) 1 4 Try.underlying37 hi hz0 hz1 hz2 rfl (by decide) _ _ _ rfl (hown4.alloc _) ⟨w4.heap.size, 0, none⟩ 1 1 [.float .f32 (qa x2)] rfl rfl ?c1 ?c2 ?c3 ?c4 ?c5 ?_)
      case c1 => exact cell_one_new _ _ _
      case c2 => simp [Value.oneCell']
      case c3 => unfold maxLen; omega
      case c4 => omega
      case c5 => simp; omega
      intro v' w5 hown' hgrow _
      have hb5 := Lib.hid ((hb4.out.alloc (by omega) _).grown hgrow (by simp; omega) (fun j hj => by have := (hown4.lt j hj).1; omega))
      have hs5 : Src w5 g a len cap (k + 1) sd4 := by
        refine ⟨?_, HS4.out.2⟩
        rw [hgrow.block g (by simp; omega) (by intro e; have := (hown4.lt g e.symm).1; omega)]
        exact (Below.heap_alloc w4 _ g (by omega)).trans HS4.out.1
      have HS5 := Lib.hid hs5
      have HG5 : Hid (g + 1 ≤ w5.heap.size) := by have := hgrow.size; unfold Hid; simp at this; omega
      clear hgrow hown4 hb4 hs5
      go_wp2
      go_roundw
      case rel => exact ⟨k + 1, acc ++ [x2], sd4, by omega, by go_num, ⟨by simp [hacl], fun p hp => by
          rw [List.mem_append] at hp
          rcases hp with hp | hp
          · exact hacc.out.2 p hp
          · rw [List.mem_singleton.1 hp]; omega⟩, by rw [show (acc ++ [x2]).length = k + 1 by simp [hacl]]; simpa using hown', HS5.out, hb5.out, HG5.out⟩
      case measure => simp [intOf]; omega
    · obtain rfl : k = n := by omega
      have hacl : acc.length = k := hacc.out.1
      have hpos : ¬ 0 < (k : Int) - (k : Int) := by omega
      have e : (acc.map fun p => Value.float .f32 (qa p)) = (List.range k).map (fw (fun i => qa (acc.getD i 0))) := by
        apply List.ext_getElem
        · simp [hacl]
        · intro i h1 h2
          simp at h1
          simp [fw, h1]
      rw [hacl, e] at hown
      obtain ⟨av, c, rfl, _⟩ := own_row hown
      have HO := Lib.hid (own_le hown (show w.heap.size ≤ g + 1 by have := HG.out; omega))
      have hbb := hbel.out
      rw [HG.out] at hbb
      have HBB := Lib.hid hbb
      have HK : Hid (∀ i, i < k → acc.getD i 0 < 16) := fun i hi => by
        have e : acc.getD i 0 = acc[i] := by simp [hacl, hi]
        rw [e]; exact hacc.out.2 _ (List.getElem_mem _)
      clear hown hbb e
      go_wp2
      go_ret
      exact ⟨fun i => acc.getD i 0, HK.out, av, c, rfl, HO.out, HBB.out⟩

/-- R8Numbers's words. -/
def qn (k : Nat) : Nat := (floatBits .quo .f32 (FloatKind.f32.nearest ((k : Int) - 8)) 1082130432).getD 0
theorem qn_told : ∀ k : Nat, k < 17 → floatBits .quo .f32 (FloatKind.f32.nearest ((k : Int) - 8)) 1082130432 = some (qn k) := by decide +kernel

/-- A list drawn by R8Numbers. -/
def Drawn_qn (w : World) (n : Nat) (e : Ending) (w' : World) : Prop := ∃ ks : Nat → Nat, (∀ i, i < n → ks i < 17) ∧ FNew w n (fun i => qn (ks i)) e w'

set_option maxHeartbeats 3200000 in
set_option maxRecDepth 100000 in
theorem draw_qn (a : Option Addr) (len cap n : Nat) (z : Nat → Int) (w : World) (hn : n ≤ 64) (hb : Bytes w a len z) (hl : len ≤ 1048576) :
    Calls Try.prog 38 #[.slice a len cap, .int .i64 n] w (Drawn_qn w n) := by
  obtain ⟨i0, hi, hz0, hz1, hz2⟩ := info_parts info27
  have HB := Lib.hid hb
  have F := Lib.hid (from_any a len cap w)
  clear hb
  obtain ⟨g, hgw⟩ : ∃ g, g = w.heap.size := ⟨_, rfl⟩
  have HG := Lib.hid hgw
  clear hgw
  go_enter Try.func38, Try.ntmps38
  go_wp2_with fail
  refine F.out.mono ?_
  rintro e w1 ⟨rfl, s1, b1, z1⟩
  rw [← HG.out] at s1 b1 z1
  rw [← HG.out]
  go_wp2
  have hown0 := World.ownsRow_made (base := g + 1) (e := 27) (size := 1) w1 #[] 0 z1 (by decide) rfl
  have S1 := Lib.hid (show Src (w1.alloc (.cells #[] 27)) g a len cap 0 0 from ⟨(Below.heap_alloc w1 _ g (by omega)).trans s1.1, s1.2⟩)
  have B1 := Lib.hid (b1.alloc (by omega) (.cells #[] 27))
  clear s1 b1 F
  go_loopw [1, 6] (fun cc v wr => ∃ (k : Nat) (acc : List Nat) (sd : Int), k ≤ n ∧ cc = .int .i64 ((n : Int) - (k : Int)) ∧ Hid (acc.length = k ∧ ∀ p ∈ acc, p < 17) ∧ wr.ownsRow (g + 1) 27 1 v acc.length (acc.map fun p => .float .f32 (qn p)) ∧ Hid (Src wr g a len cap k sd) ∧ Hid (Below g w wr) ∧ Hid (g + 1 ≤ wr.heap.size)) (fun cc _ _ => (intOf cc).toNat)
  case atStart => exact ⟨0, [], 0, by omega, by simp, ⟨rfl, fun p hp => by cases hp⟩, hown0, S1.out, B1.out, (by unfold Hid; simp; omega)⟩
  case round =>
    obtain ⟨k, acc, sd, hk, rfl, hacc, hown, hsrc, hbel, hsize⟩ := hrel
    by_cases hlt : k < n
    · obtain ⟨wo, rfl⟩ : ∃ wo : World, wo = wr := ⟨_, rfl⟩
      have hpos : 0 < (n : Int) - (k : Int) := by omega
      have hbw : Bytes wo a len z := HB.out.below (by have := hbel.out; rw [HG.out] at this; exact this)
      have P := Lib.hid (pick_any g a len cap k sd z 17 wo hsrc.out hbw hl (by omega) (by decide) (by decide))
      go_wp2_with fail
      refine P.out.mono ?_
      rintro e w4 ⟨x, sd4, rfl, hy0, hy1, hs4, hg4⟩
      obtain ⟨x2, rfl⟩ : ∃ m : Nat, x = (m : Int) := ⟨x.toNat, by omega⟩
      have hown4 := hown.kept hg4 (Or.inr (fun e => by have := hown.lt g e; omega))
      have hb4 := Lib.hid (hbel.out.grown hg4 (by have := hsize.out; omega) (fun j hj => by cases hj; exact Nat.le_refl _))
      have hsz4 : g + 1 ≤ w4.heap.size := by have := hsize.out; have := hg4.size; omega
      have hk2 := qn_told x2 (by omega)
      have a2 : ∀ w, (binOp .quo 27 (.float .f32 (floatOfInt .f32 ((x2 : Int) - 8))) (.float .f32 1082130432)).run Try.prog w = .ok (.float .f32 (qn x2)) w := ar hk2 27
      have HS4 := Lib.hid hs4
      have hacl : acc.length = k := hacc.out.1
      clear hk2 hown hg4 P hs4 hbw
      go_wp2_with (at_builtin; refine wpList_append_own _ rfl _ _ 37 rfl (g + 1) 27 i0 (.float .f32 0) 1 4 Try.underlying37 hi hz0 hz1 hz2 rfl (by decide) _ _ _ rfl (hown4.alloc _) ⟨w4.heap.size, 0, none⟩ 1 1 [.float .f32 (qn x2)] rfl rfl ?c1 ?c2 ?c3 ?c4 ?c5 ?_)
      case c1 => exact cell_one_new _ _ _
      case c2 => simp [Value.oneCell']
      case c3 => unfold maxLen; omega
      case c4 => omega
      case c5 => simp; omega
      intro v' w5 hown' hgrow _
      have hb5 := Lib.hid ((hb4.out.alloc (by omega) _).grown hgrow (by simp; omega) (fun j hj => by have := (hown4.lt j hj).1; omega))
      have hs5 : Src w5 g a len cap (k + 1) sd4 := by
        refine ⟨?_, HS4.out.2⟩
        rw [hgrow.block g (by simp; omega) (by intro e; have := (hown4.lt g e.symm).1; omega)]
        exact (Below.heap_alloc w4 _ g (by omega)).trans HS4.out.1
      have HS5 := Lib.hid hs5
      have HG5 : Hid (g + 1 ≤ w5.heap.size) := by have := hgrow.size; unfold Hid; simp at this; omega
      clear hgrow hown4 hb4 hs5
      go_wp2
      go_roundw
      case rel => exact ⟨k + 1, acc ++ [x2], sd4, by omega, by go_num, ⟨by simp [hacl], fun p hp => by
          rw [List.mem_append] at hp
          rcases hp with hp | hp
          · exact hacc.out.2 p hp
          · rw [List.mem_singleton.1 hp]; omega⟩, by rw [show (acc ++ [x2]).length = k + 1 by simp [hacl]]; simpa using hown', HS5.out, hb5.out, HG5.out⟩
      case measure => simp [intOf]; omega
    · obtain rfl : k = n := by omega
      have hacl : acc.length = k := hacc.out.1
      have hpos : ¬ 0 < (k : Int) - (k : Int) := by omega
      have e : (acc.map fun p => Value.float .f32 (qn p)) = (List.range k).map (fw (fun i => qn (acc.getD i 0))) := by
        apply List.ext_getElem
        · simp [hacl]
        · intro i h1 h2
          simp at h1
          simp [fw, h1]
      rw [hacl, e] at hown
      obtain ⟨av, c, rfl, _⟩ := own_row hown
      have HO := Lib.hid (own_le hown (show w.heap.size ≤ g + 1 by have := HG.out; omega))
      have hbb := hbel.out
      rw [HG.out] at hbb
      have HBB := Lib.hid hbb
      have HK : Hid (∀ i, i < k → acc.getD i 0 < 17) := fun i hi => by
        have e : acc.getD i 0 = acc[i] := by simp [hacl, hi]
        rw [e]; exact hacc.out.2 _ (List.getElem_mem _)
      clear hown hbb e
      go_wp2
      go_ret
      exact ⟨fun i => acc.getD i 0, HK.out, av, c, rfl, HO.out, HBB.out⟩
end Go.Proofs.Ytdcfailgakofeaa
