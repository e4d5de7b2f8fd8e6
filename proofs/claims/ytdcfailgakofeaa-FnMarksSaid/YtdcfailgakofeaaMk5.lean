/-
  Walks: marks are told, and taken away.
-/
import Derived.Test.YtdcfailgakofeaaMk4
namespace Go.Proofs.Ytdcfailgakofeaa
open Go.RowKit Go.Flt

theorem info2 : (Try.prog.info? 2).map (fun i => (i.zero, i.size, i.bytes)) = some (some (.int .i64 0), 1, 8) := by kernel_rfl

/-- What a number stands above the greater of its neighbours. -/
def diffW (xs : Nat → Nat) (i : Nat) : Nat := (floatBits .sub .f32 (xs i) (maxW .f32 (xs (i - 1)) (xs (i + 1)))).getD 0
def peakB (xs : Nat → Nat) (bar i : Nat) : Bool := FloatKind.f32.format.order (diffW xs i) bar == some .gt
def isPk (xs : Nat → Nat) (bar n i : Nat) : Bool := decide (1 ≤ i) && decide (i + 1 < n) && peakB xs bar i
/-- The marks below m. -/
def marksTo (xs : Nat → Nat) (bar n m : Nat) : List Nat := (List.range m).filter (isPk xs bar n)

structure Peaks (xs : Nat → Nat) (n : Nat) : Prop where
  ord : ∀ i, 1 ≤ i → i + 1 < n → (FloatKind.f32.format.order (xs (i - 1)) (xs (i + 1))).isSome = true
  sub : ∀ i, 1 ≤ i → i + 1 < n → floatBits .sub .f32 (xs i) (maxW .f32 (xs (i - 1)) (xs (i + 1))) = some (diffW xs i)

theorem marksTo_succ (xs : Nat → Nat) (bar n m : Nat) : marksTo xs bar n (m + 1) = marksTo xs bar n m ++ (if isPk xs bar n m then [m] else []) := by
  unfold marksTo
  rw [List.range_succ, List.filter_append]
  congr 1
  cases h : isPk xs bar n m <;> simp [h]

theorem marksTo_le (xs : Nat → Nat) (bar n m : Nat) : (marksTo xs bar n m).length ≤ m := by
  unfold marksTo
  have := List.length_filter_le (isPk xs bar n) (List.range m)
  simpa using this

/-- A new list of marks. -/
def MNew (w : World) (ms : List Nat) (e : Ending) (w' : World) : Prop :=
  ∃ a c, e = .returned (.tuple #[.slice a ms.length c, .bool true]) ∧ w'.ownsRow w.heap.size 2 1 (.slice a ms.length c) ms.length (ms.map fun (m : Nat) => Value.int .i64 m) ∧ Below w.heap.size w w'

theorem row_slice {w : World} {base : Nat} {e : TypeId} {v : Value} {n : Nat} {xs : List Value} (h : w.ownsRow base e 1 v n xs) : ∃ a c, v = .slice a n c := by
  rcases h.2 with ⟨h1, h2⟩ | ⟨g, cap, cur, h1, _⟩
  · exact ⟨none, 0, by rw [h1, h2]⟩
  · exact ⟨_, _, h1⟩

set_option maxHeartbeats 3200000 in
set_option maxRecDepth 100000 in
theorem marks_any (a : Option Addr) (n cap : Nat) (xs : Nat → Nat) (bar : Nat) (w : World) (h3 : 3 ≤ n) (hn : n ≤ 64) (hr : FRow w a n xs) (hb : fin Ieee.single bar) (hb0 : 0 ≤ fval Ieee.single bar) (hp : Peaks xs n) :
    Calls Try.prog 19 #[.slice a n cap, .float .f32 bar] w (MNew w (marksTo xs bar n n)) := by
  obtain ⟨i0, hi, hz0, hz1, hz2⟩ := info_parts info2
  have HB := Lib.hid (isBins_any a n cap 3 xs w hn h3 hr)
  have HF := Lib.hid (fun w => isFinite_any bar w hb.1)
  rw [fin_finB hb] at HF
  have HR := Lib.hid hr.row
  have HP := Lib.hid hp
  have hnot : ∀ (b : Bool) (w : World), (Op.unary .not (.bool b)).run Try.prog w = .ok (.bool (!b)) w := fun _ _ => rfl
  have t : (FloatKind.f32.format.order bar 0 == some .lt) = false := by rw [lt32 hb zero_fin, zero_val]; exact decide_eq_false (by grind)
  clear hr hp hb hb0
  go_enter Try.func19, Try.ntmps19
  go_wp2_with fail
  refine HB.out.mono ?_
  rintro e w1 ⟨rfl, hb1⟩
  have HB1 := Lib.hid hb1
  clear hb1
  go_wp2_with fail
  refine (HF.out _).mono ?_
  rintro e w2 ⟨rfl, q0, rfl⟩
  have hb2 := Lib.hid (below_drewN HB1.out q0)
  generalize w1.drewN q0 = w2 at *
  clear HB HF
  go_wp2
  have hsz := hb2.out.size
  go_loopw [6, 7] (fun v ii wr => ∃ (i : Nat) (acc : List Nat), 1 ≤ i ∧ i + 1 ≤ n ∧ ii = .int .i64 i ∧ Hid (acc = marksTo xs bar n i) ∧ wr.ownsRow w.heap.size 2 1 v acc.length (acc.map fun (m : Nat) => Value.int .i64 m) ∧ Below w.heap.size w wr) (fun _ ii _ => n - (intOf ii).toNat)
  case atStart =>
    refine ⟨1, [], by omega, by omega, rfl, ?_, ?_, ?_⟩
    · show [] = marksTo xs bar n 1
      rw [marksTo_succ]
      unfold isPk
      simp [marksTo]
    · exact World.ownsRow_made w2 #[] 0 hsz (by decide) rfl
    · exact hb2.out.alloc hsz _
  case round =>
    obtain ⟨i, acc, h1, hin, rfl, hacc, hown, hbel⟩ := hrel
    by_cases hlt : i + 1 < n
    · obtain ⟨b, off, rfl, hc0⟩ := HR.out i (by omega)
      obtain ⟨b', off', e1, hc1⟩ := HR.out (i - 1) (by omega)
      injection e1 with e1; injection e1 with e3 e4
      subst e3; subst e4
      obtain ⟨b', off', e1, hc2⟩ := HR.out (i + 1) (by omega)
      injection e1 with e1; injection e1 with e3 e4
      subst e3; subst e4
      have hblk := World.block_lt_of_cell? w _ hc0
      obtain ⟨va, vc, rfl⟩ := row_slice hown
      have c0 := (hbel.cell (p := ⟨b, off + i, none⟩) hblk).trans hc0
      have c1 := (hbel.cell (p := ⟨b, off + (i - 1), none⟩) hblk).trans hc1
      have c2 := (hbel.cell (p := ⟨b, off + (i + 1), none⟩) hblk).trans hc2
      have m1 := run_maxF (HP.out.ord i h1 hlt)
      have a1 := ar (HP.out.sub i h1 hlt) 27
      have hlti : (i : Int) + 1 < (n : Int) := by omega
      have hacl : acc.length ≤ 64 := by rw [hacc.out]; have := marksTo_le xs bar n i; omega
      have hpk : isPk xs bar n i = peakB xs bar i := by unfold isPk; rw [decide_eq_true h1, decide_eq_true hlt]; rfl
      have e5 : ((i : Int) - 1) = ((i - 1 : Nat) : Int) := by omega
      clear hc0 hc1 hc2
      have hown2 : wr.drew.ownsRow w.heap.size 2 1 (.slice va acc.length vc) acc.length (acc.map fun (m : Nat) => Value.int .i64 m) := hown
      have hbel2 : Below w.heap.size w wr.drew := below_drewN hbel 1
      cases hpb : peakB xs bar i with
      | true =>
        have tp : (FloatKind.f32.format.order (diffW xs i) bar == some .gt) = true := hpb
        go_wp2
        go_region
        go_wp2_with (at_builtin; refine wpList_append_own _ rfl _ _ 39 rfl w.heap.size 2 i0 (.int .i64 0) 1 8 Try.underlying39 hi hz0 hz1 hz2 rfl (by decide) _ _ _ rfl (hown2.alloc _) ⟨wr.heap.size, 0, none⟩ 1 1 [.int .i64 i] rfl rfl ?c1 ?c2 ?c3 ?c4 ?c5 ?_)
        case c1 => exact cell_one_new _ _ _
        case c2 => simp [Value.oneCell']
        case c3 => unfold maxLen; omega
        case c4 => omega
        case c5 => have := hbel2.size; simp at this ⊢; omega
        intro v' w5 hown' hgrow _
        have hb5 := (hbel2.alloc hbel2.size _).grown hgrow (by have := hbel2.size; simp at this ⊢; omega) (fun j hj => (hown2.lt j hj).1)
        clear hgrow hown2 hbel2 hown hbel
        go_wp2
        go_roundw
        case rel => exact ⟨i + 1, acc ++ [i], by omega, by omega, by go_num, by rw [hacc.out, marksTo_succ, hpk, hpb]; rfl, by simpa using hown', hb5⟩
        case measure => simp [intOf]; omega
      | false =>
        have tp : (FloatKind.f32.format.order (diffW xs i) bar == some .gt) = false := hpb
        go_wp2
        go_region
        go_wp2
        go_roundw
        case rel => exact ⟨i + 1, acc, by omega, by omega, by go_num, by rw [marksTo_succ, hpk, hpb, hacc.out]; simp [Hid], hown2, hbel2⟩
        case measure => simp [intOf]; omega
    · have hni : i + 1 = n := by omega
      have hlast : marksTo xs bar n n = acc := by
        rw [hacc.out, ← hni, marksTo_succ]
        unfold isPk
        simp
      obtain ⟨va, vc, rfl⟩ := row_slice hown
      have HO := Lib.hid hown
      have HBB := Lib.hid hbel
      have HL := Lib.hid hlast
      clear hown hbel hlast hni
      go_wp2
      go_ret2
      rw [HL.out]
      exact ⟨va, vc, rfl, HO.out, HBB.out⟩
end Go.Proofs.Ytdcfailgakofeaa
