/-
  Walk: a list is spread by a kernel.
-/
import Derived.Test.YtdcfailgakofeaaMk6
namespace Go.Proofs.Ytdcfailgakofeaa
open Go.RowKit Go.Flt

/-- The index that is met. -/
def atN (n half i k : Nat) : Nat := min (i + k - half) (n - 1)
/-- The sum of the first k products. -/
def accW (xs ks : Nat → Nat) (n half i : Nat) : Nat → Option Nat
  | 0 => some 0
  | k + 1 => (accW xs ks n half i k).bind fun s => (floatBits .mul .f32 (ks k) (xs (atN n half i k))).bind fun p => floatBits .add .f32 s p
def spreadO (xs ks : Nat → Nat) (n m all i : Nat) : Option Nat := (accW xs ks n (m / 2) i m).bind fun s => floatBits .quo .f32 s all

theorem accW_le {xs ks : Nat → Nat} {n half i : Nat} : ∀ {m r : Nat}, accW xs ks n half i m = some r → ∀ k, k ≤ m → ∃ s, accW xs ks n half i k = some s
  | 0, r, h, k, hk => ⟨r, by rw [show k = 0 by omega]; exact h⟩
  | m + 1, r, h, k, hk => by
    by_cases e : k = m + 1
    · exact ⟨r, by rw [e]; exact h⟩
    · unfold accW at h
      obtain ⟨s, hs, _⟩ := Option.bind_eq_some_iff.1 h
      exact accW_le hs k (by omega)

set_option maxHeartbeats 3200000 in
set_option maxRecDepth 100000 in
theorem spread_any (a ka : Option Addr) (n cap m kc : Nat) (xs ks : Nat → Nat) (all : Nat) (zs : Nat → Nat) (w : World) (h1 : 1 ≤ n) (hn : n ≤ 64) (hm : m ≤ 5) (hr : Row w a n fun i => .float .f32 (xs i)) (hk : Row w ka m fun i => .float .f32 (ks i)) (hall : sumW ks m = some all)
    (hz : ∀ i, i < n → spreadO xs ks n m all i = some (zs i)) :
    Calls Try.prog 65 #[.slice a n cap, .slice ka m kc] w (FNew w n zs) := by
  obtain ⟨i0, hi, hz0, hz1, hz2⟩ := info_parts info27
  have HS := Lib.hid (fun w' (hb : Below w.heap.size w w') => sum_any ka m kc ks all w' (by omega) (hk.below hb) hall)
  have HR := Lib.hid hr
  have HK := Lib.hid hk
  have HZ := Lib.hid hz
  obtain ⟨half, hhalf⟩ : ∃ half : Nat, half = m / 2 := ⟨_, rfl⟩
  have hdiv : (m : Int) / 2 = (half : Int) := by omega
  have hh2 : half ≤ 2 := by omega
  have HH := Lib.hid hhalf
  have hmax : ∀ (i k : Nat) (ts : Array TypeId) (t : TypeId) (w : World), (Builtin.max_ ts t #[.int .i64 ((i : Int) + (k : Int) - (half : Int)), .int .i64 0]).run Try.prog w = .ok (.int .i64 ((i + k - half : Nat) : Int)) w := fun i k ts t w => by
    rw [run_max_int2]
    congr 2
    split <;> omega
  have hmin : ∀ (i k : Nat) (ts : Array TypeId) (t : TypeId) (w : World), (Builtin.min_ ts t #[.int .i64 ((i + k - half : Nat) : Int), .int .i64 ((n : Int) - 1)]).run Try.prog w = .ok (.int .i64 ((atN n half i k : Nat) : Int)) w := fun i k ts t w => by
    rw [run_min_int2]
    congr 2
    unfold atN
    split <;> omega
  clear hr hk hall hz hhalf
  go_enter Try.func65, Try.ntmps65
  go_wp2_with fail
  refine (HS.out _ (Below.refl _ _)).mono ?_
  rintro e w1 ⟨rfl, hw⟩
  rw [hw]; clear hw w1 HS
  go_wp2
  go_loopw [7, 21] (fun v ii wr => ∃ (i : Nat) (acc : List Nat), i ≤ n ∧ ii = .int .i64 i ∧ Hid (acc = (List.range i).map zs) ∧ wr.ownsRow w.heap.size 27 1 v acc.length (acc.map fun x => .float .f32 x) ∧ Below w.heap.size w wr) (fun _ ii _ => n - (intOf ii).toNat)
  case atStart =>
    refine ⟨0, [], by omega, rfl, rfl, ?_, ?_⟩
    · exact World.ownsRow_made w #[] 0 (Nat.le_refl _) (by decide) rfl
    · exact (Below.refl _ _).alloc (Nat.le_refl _) _
  case round =>
    obtain ⟨i, acc, hin, rfl, hacc, hown, hbel⟩ := hrel
    obtain ⟨va, vc, rfl⟩ := row_slice hown
    by_cases hlt : i < n
    · have hzi := HZ.out i hlt
      unfold spreadO at hzi
      rw [← HH.out] at hzi
      obtain ⟨tot, htot, hq⟩ := Option.bind_eq_some_iff.1 hzi
      have HT := Lib.hid htot
      have q1 := ar hq 27
      have HO := Lib.hid hown
      have HBL := Lib.hid hbel
      have hacl : acc.length = i := by rw [hacc.out]; simp
      clear hzi htot hq hown hbel
      go_wp2
      go_loop [9, 26] (fun xx kk => ∃ (k x : Nat), k ≤ m ∧ kk = .int .i64 k ∧ xx = .float .f32 x ∧ Hid (accW xs ks n half i k = some x)) (fun _ kk => m - (intOf kk).toNat)
      case atStart => exact ⟨0, 0, by omega, rfl, rfl, rfl⟩
      case round =>
        obtain ⟨k, x, hkm, rfl, rfl, hx⟩ := hrel
        by_cases hlk : k < m
        · obtain ⟨kb, ko, rfl, hck0⟩ := HK.out k hlk
          have hck := (HBL.out.cell (p := ⟨kb, ko + k, none⟩) (World.block_lt_of_cell? w _ hck0)).trans hck0
          have hat : atN n half i k < n := by unfold atN; omega
          obtain ⟨b, o, rfl, hc0⟩ := HR.out (atN n half i k) hat
          have hc := (HBL.out.cell (p := ⟨b, o + atN n half i k, none⟩) (World.block_lt_of_cell? w _ hc0)).trans hc0
          obtain ⟨x', hx'⟩ := accW_le HT.out (k + 1) (by omega)
          have hstep := hx'
          unfold accW at hstep
          rw [hx.out, Option.bind_some] at hstep
          obtain ⟨p, hp, hadd⟩ := Option.bind_eq_some_iff.1 hstep
          have a1 := ar hp 27
          have a2 := ar hadd 27
          have HX := Lib.hid hx'
          clear hck0 hc0 hx' hstep hp hadd
          go_wp2
          go_round
          case rel => exact ⟨k + 1, x', by omega, by go_num, rfl, HX.out⟩
          case measure => simp [intOf]; omega
        · obtain rfl : k = m := by omega
          obtain rfl : x = tot := Option.some.inj (hx.out.symm.trans HT.out)
          have hown2 := HO.out
          have hbel2 := HBL.out
          clear HO HBL
          go_wp2_with (at_builtin; refine wpList_append_own _ rfl _ _ 37 rfl w.heap.size 27 i0 (.float .f32 0) 1 4 Try.underlying37 hi hz0 hz1 hz2 rfl (by decide) _ _ _ rfl (hown2.alloc _) ⟨wr.heap.size, 0, none⟩ 1 1 [.float .f32 (zs i)] rfl rfl ?c1 ?c2 ?c3 ?c4 ?c5 ?_)
          case c2 => simp [Value.oneCell']
          case c3 => unfold maxLen; omega
          case c4 => omega
          case c5 => have := hbel2.size; simp at this ⊢; omega
          intro v' w5 hown' hgrow _
          have hb5 := (hbel2.alloc hbel2.size _).grown hgrow (by have := hbel2.size; simp at this ⊢; omega) (fun j hj => (hown2.lt j (by rw [hacl]; exact hj)).1)
          clear hgrow hown2 hbel2
          go_wp2
          go_roundw
          case rel => exact ⟨i + 1, acc ++ [zs i], by omega, by go_num, by rw [hacc.out, List.range_succ, List.map_append]; rfl, by rw [show (acc ++ [zs i]).length = i + 1 by simp [hacl]]; simpa using hown', hb5⟩
          case measure => simp [intOf]; omega
    · obtain rfl : i = n := by omega
      have hacl : acc.length = i := by rw [hacc.out]; simp
      have e : (acc.map fun x => Value.float .f32 x) = (List.range i).map (fw zs) := by rw [hacc.out, List.map_map]; rfl
      rw [hacl, e] at hown
      have HO := Lib.hid hown
      have HBL := Lib.hid hbel
      clear hown hbel e
      go_wp2
      go_ret
      exact ⟨va, vc, by rw [hacl]; rfl, HO.out, HBL.out⟩
end Go.Proofs.Ytdcfailgakofeaa
