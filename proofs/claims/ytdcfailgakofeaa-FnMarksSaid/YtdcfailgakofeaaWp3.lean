/-
  Walks: the source that picks numbers from bytes.
-/
import Derived.Test.YtdcfailgakofeaaWp2
namespace Go.Proofs.Ytdcfailgakofeaa
open Go.RowKit Go.Flt

theorem info93 : (Try.prog.info? 93).map (fun i => (i.zero, i.size, i.bytes)) = some (some (.agg #[.slice none 0 0, .int .i64 0, .int .u64 0]), 3, 40) := by kernel_rfl

/-- The source's block. -/
def Src (w : World) (g : Nat) (a : Option Addr) (len cap i : Nat) (seed : Int) : Prop :=
  w.heap[g]? = some (.cells #[.slice a len cap, .int .i64 i, .int .u64 seed] 93 (0, 0)) ∧ 0 ≤ seed ∧ seed < 18446744073709551616

/-- The bytes' row. -/
def Bytes (w : World) (a : Option Addr) (len : Nat) (z : Nat → Int) : Prop := Row w a len (fun i => .int .u8 (z i)) ∧ ∀ i, i < len → 0 ≤ z i ∧ z i < 256

/-- A number drawn from the source: it is below n; nothing but the source's block is changed. -/
def Drew (w : World) (g : Nat) (a : Option Addr) (len cap i : Nat) (n : Int) (e : Ending) (w' : World) : Prop :=
  ∃ x seed, e = .returned (.int .i64 x) ∧ 0 ≤ x ∧ x < n ∧ Src w' g a len cap i seed ∧ w.grownBy w' (some g)

theorem grown_drew {w W : World} {row : Option Nat} (h : w.grownBy W row) : w.grownBy W.drew row := ⟨h.os, h.tape, h.output, h.size, h.block⟩

theorem wrap_u64 (n : Int) : 0 ≤ IntKind.u64.wrap n ∧ IntKind.u64.wrap n < 18446744073709551616 := by
  show 0 ≤ n % 18446744073709551616 ∧ n % 18446744073709551616 < 18446744073709551616
  omega

theorem src_step {w : World} {g : Nat} {a : Option Addr} {len cap i : Nat} {seed : Int} (h : Src w g a len cap i seed) (sd : Int) (hsd : 0 ≤ sd ∧ sd < 18446744073709551616) :
    Src ((w.setCell ⟨g, 1, none⟩ (.int .i64 ((i : Int) + 1))).setCell ⟨g, 2, none⟩ (.int .u64 sd)).drew.drew g a len cap (i + 1) sd ∧ w.grownBy ((w.setCell ⟨g, 1, none⟩ (.int .i64 ((i : Int) + 1))).setCell ⟨g, 2, none⟩ (.int .u64 sd)).drew.drew (some g) := by
  have h1 := heap_setCell_same w g 1 _ 93 (.int .i64 ((i : Int) + 1)) h.1
  have h2 := heap_setCell_same _ g 2 _ 93 (.int .u64 sd) h1
  refine ⟨⟨?_, hsd⟩, rfl, rfl, rfl, by simp [World.setCell], fun k _ hk => ?_⟩
  · show ((w.setCell ⟨g, 1, none⟩ (.int .i64 ((i : Int) + 1))).setCell ⟨g, 2, none⟩ (.int .u64 sd)).heap[g]? = _
    rw [h2]
    simp
  · have e : ∀ (w : World) (j : Nat) (u : Value), (w.setCell ⟨g, j, none⟩ u).heap[k]? = w.heap[k]? := fun w j u => heap_setCell_other w ⟨g, j, none⟩ k u (fun e => hk (by simp [e]))
    show ((w.setCell ⟨g, 1, none⟩ (.int .i64 ((i : Int) + 1))).setCell ⟨g, 2, none⟩ (.int .u64 sd)).heap[k]? = _
    rw [e, e]

theorem byte_of {sd : Int} (h : 0 ≤ sd ∧ sd < 18446744073709551616) : 0 ≤ wrap64 (bits .and .u64 (sd / 1099511627776) 255) ∧ wrap64 (bits .and .u64 (sd / 1099511627776) 255) < 256 := by
  obtain ⟨m, hm⟩ : ∃ m : Nat, sd / 1099511627776 = (m : Int) := ⟨(sd / 1099511627776).toNat, by omega⟩
  rw [hm, show (255 : Int) = ((255 : Nat) : Int) from rfl, u64_and_nat m 255 (by omega) (by decide)]
  have := Nat.and_le_right (n := m) (m := 255)
  unfold wrap64
  omega

set_option maxHeartbeats 3200000 in
set_option maxRecDepth 100000 in
theorem next_any (g : Nat) (a : Option Addr) (len cap i : Nat) (seed : Int) (z : Nat → Int) (w : World) (hs : Src w g a len cap i seed) (hb : Bytes w a len z) (hl : len ≤ 1048576) (hi : i ≤ 1048576) :
    Calls Try.prog 87 #[.pointer (some ⟨g, 0, none⟩)] w (Drew w g a len cap (i + 1) 256) := by
  have c0 : w.cell? ⟨g, 0, none⟩ = some (.slice a len cap) := cell_of_row w g 0 _ _ _ hs.1
  have c1 : w.cell? ⟨g, 1, none⟩ = some (.int .i64 i) := cell_of_row w g 1 _ _ _ hs.1
  have c2 : w.cell? ⟨g, 2, none⟩ = some (.int .u64 seed) := cell_of_row w g 2 _ _ _ hs.1
  have f1 : w.frozen? ⟨g, 1, none⟩ = false := frozen_of_row w g 1 _ _ hs.1
  have f2 : w.frozen? ⟨g, 2, none⟩ = false := frozen_of_row w g 2 _ _ hs.1
  have HS := Lib.hid hs
  clear hs
  by_cases hlt : i < len
  · obtain ⟨b, o, rfl, hc⟩ := hb.1 i hlt
    have hz := hb.2 i hlt
    have hlti : (i : Int) < (len : Int) := by omega
    clear hb
    go_enter Try.func87, Try.ntmps87
    go_wp2
    go_region
    go_wp2
    go_region
    go_wp2
    generalize hsd : IntKind.u64.wrap (IntKind.u64.wrap (IntKind.u64.wrap (seed * 6364136223846793005) + z i) + 1442695040888963407) = sd
    have hb := src_step HS.out sd (hsd ▸ wrap_u64 _)
    have HB := Lib.hid hb
    generalize ((w.setCell ⟨g, 1, none⟩ (.int .i64 ((i : Int) + 1))).setCell ⟨g, 2, none⟩ (.int .u64 sd)).drew.drew = W at *
    have d0 : W.cell? ⟨g, 0, none⟩ = some (.slice (some ⟨b, o, none⟩) len cap) := cell_of_row W g 0 _ _ _ hb.1.1
    have d1 : W.cell? ⟨g, 1, none⟩ = some (.int .i64 ((i + 1 : Nat) : Int)) := cell_of_row W g 1 _ _ _ hb.1.1
    have d2 : W.cell? ⟨g, 2, none⟩ = some (.int .u64 sd) := cell_of_row W g 2 _ _ _ hb.1.1
    have hle : ((i + 1 : Nat) : Int) ≤ (len : Int) := by omega
    clear hb c0 c1 c2 f1 f2 hc
    go_region
    go_wp2
    go_ret
    exact ⟨_, sd, rfl, hz.1, hz.2, HB.out.1, grown_drew HB.out.2⟩
  · have hlti : ¬ (i : Int) < (len : Int) := by omega
    clear hb
    go_enter Try.func87, Try.ntmps87
    go_wp2
    go_region
    go_wp2
    generalize hsd : IntKind.u64.wrap (IntKind.u64.wrap (IntKind.u64.wrap (seed * 6364136223846793005)) + 1442695040888963407) = sd
    have hsd2 : 0 ≤ sd ∧ sd < 18446744073709551616 := hsd ▸ wrap_u64 _
    have hb := src_step HS.out sd hsd2
    have HB := Lib.hid hb
    have e : ((w.setCell ⟨g, 1, none⟩ (.int .i64 ((i : Int) + 1))).setCell ⟨g, 2, none⟩ (.int .u64 sd)).drew.drew = ((w.setCell ⟨g, 1, none⟩ (.int .i64 ((i : Int) + 1))).setCell ⟨g, 2, none⟩ (.int .u64 sd)).drew.drew := rfl
    have hb' : Src ((w.setCell ⟨g, 1, none⟩ (.int .i64 ((i : Int) + 1))).setCell ⟨g, 2, none⟩ (.int .u64 sd)).drew g a len cap (i + 1) sd ∧ w.grownBy ((w.setCell ⟨g, 1, none⟩ (.int .i64 ((i : Int) + 1))).setCell ⟨g, 2, none⟩ (.int .u64 sd)).drew (some g) := ⟨hb.1, ⟨hb.2.os, hb.2.tape, hb.2.output, hb.2.size, hb.2.block⟩⟩
    have HB := Lib.hid hb'
    generalize ((w.setCell ⟨g, 1, none⟩ (.int .i64 ((i : Int) + 1))).setCell ⟨g, 2, none⟩ (.int .u64 sd)).drew = W at *
    have d0 : W.cell? ⟨g, 0, none⟩ = some (.slice a len cap) := cell_of_row W g 0 _ _ _ hb'.1.1
    have d1 : W.cell? ⟨g, 1, none⟩ = some (.int .i64 ((i + 1 : Nat) : Int)) := cell_of_row W g 1 _ _ _ hb'.1.1
    have d2 : W.cell? ⟨g, 2, none⟩ = some (.int .u64 sd) := cell_of_row W g 2 _ _ _ hb'.1.1
    have hle : ¬ ((i + 1 : Nat) : Int) ≤ (len : Int) := by omega
    clear hb hb' e c0 c1 c2 f1 f2
    go_region
    go_wp2
    go_ret
    exact ⟨_, sd, rfl, (byte_of hsd2).1, (byte_of hsd2).2, HB.out.1, grown_drew HB.out.2⟩

set_option maxHeartbeats 1600000 in
theorem pick_any (g : Nat) (a : Option Addr) (len cap i : Nat) (seed : Int) (z : Nat → Int) (n : Int) (w : World) (hs : Src w g a len cap i seed) (hb : Bytes w a len z) (hl : len ≤ 1048576) (hi : i ≤ 1048576) (h2 : 2 ≤ n) (hn : n ≤ 200) :
    Calls Try.prog 48 #[.pointer (some ⟨g, 0, none⟩), .int .i64 n] w (Drew w g a len cap (i + 1) n) := by
  have N := Lib.hid (next_any g a len cap i seed z w hs hb hl hi)
  clear hs hb
  have t1 : ¬ n ≤ 1 := by omega
  have t2 : ¬ 200 < n := by omega
  have t3 : n ≠ 0 := by omega
  go_enter Try.func48, Try.ntmps48
  go_wp2_with fail
  refine N.out.mono ?_
  rintro e w1 ⟨x, sd, rfl, hx0, hx1, hs1, hg1⟩
  have HS := Lib.hid hs1
  have HG := Lib.hid hg1
  clear hs1 hg1
  go_wp2
  go_ret
  exact ⟨_, sd, rfl, Int.emod_nonneg x t3, Int.emod_lt_of_pos x (by omega), HS.out, HG.out⟩
end Go.Proofs.Ytdcfailgakofeaa
