/-
  The reference's cut of a text at newlines makes the pieces of 'cutFrom', in memory of its own, for every text of at most 2^20 bytes.
-/
import Derived.Test.YtdcfailgakofeaaDoorRows
import Derived.Test.YtdcfailgakofeaaDoorPieces
import Derived.WalkKit
import Derived.WalkSpells
import Derived.Outline
import Derived.Lib.Hide
namespace Go.Proofs.YtdcfailgakofeaaDoor
open Go.RowKit

theorem info9 : (Tryd.prog.info? 9).map (fun i => (i.zero, i.size, i.bytes)) = some (some (.string ByteArray.empty), 1, 16) := by kernel_rfl

/-- What the loop holds at index k: 'acc' has been cut off, the piece at hand begins at f. -/
def CutRel (s : ByteArray) (k f : Nat) (acc : List ByteArray) : Prop :=
  if k ≤ s.size then f ≤ k ∧ acc ++ cutFrom s 10 f (s.size - k) = cutFrom s 10 0 s.size else acc = cutFrom s 10 0 s.size

theorem cutFrom_length (s : ByteArray) (c : UInt8) : ∀ (d f : Nat), d ≤ s.size → (cutFrom s c f d).length ≤ d + 1 ∧ 1 ≤ (cutFrom s c f d).length
  | 0, f, _ => by simp [cutFrom]
  | d + 1, f, h => by
    rw [cutFrom, dif_pos (by omega)]
    split
    · have := cutFrom_length s c d (s.size - (d + 1) + 1) (by omega)
      simp only [List.length_cons]; omega
    · have := cutFrom_length s c d f (by omega)
      omega

theorem CutRel.len {s : ByteArray} {k f : Nat} {acc : List ByteArray} (h : CutRel s k f acc) : acc.length ≤ s.size + 1 := by
  unfold CutRel at h
  have hl := (cutFrom_length s 10 s.size 0 (Nat.le_refl _)).1
  split at h
  · have := congrArg List.length h.2
    simp only [List.length_append] at this
    omega
  · rw [h]; exact hl

theorem CutRel.skip {s : ByteArray} {k f : Nat} {acc : List ByteArray} (h : CutRel s k f acc) (hk : k < s.size) (hb : s[k] ≠ 10) : CutRel s (k + 1) f acc := by
  unfold CutRel at *
  rw [if_pos (by omega)] at *
  refine ⟨by omega, ?_⟩
  rw [← h.2]
  have e : s.size - k = (s.size - (k + 1)) + 1 := by omega
  have e2 : s.size - (s.size - (k + 1) + 1) = k := by omega
  rw [e, cutFrom, dif_pos (by omega)]
  simp only [e2]
  rw [if_neg hb]

theorem CutRel.hit {s : ByteArray} {k f : Nat} {acc : List ByteArray} (h : CutRel s k f acc) (hk : k < s.size) (hb : s[k] = 10) : CutRel s (k + 1) (k + 1) (acc ++ [s.extract f k]) := by
  unfold CutRel at *
  rw [if_pos (by omega)] at *
  refine ⟨by omega, ?_⟩
  rw [← h.2]
  have e : s.size - k = (s.size - (k + 1)) + 1 := by omega
  have e2 : s.size - (s.size - (k + 1) + 1) = k := by omega
  rw [e, cutFrom, dif_pos (by omega)]
  simp only [e2]
  rw [if_pos hb]
  simp

theorem CutRel.last {s : ByteArray} {f : Nat} {acc : List ByteArray} (h : CutRel s s.size f acc) : CutRel s (s.size + 1) (s.size + 1) (acc ++ [s.extract f s.size]) := by
  unfold CutRel at *
  rw [if_pos (Nat.le_refl _)] at h
  rw [if_neg (by omega), ← h.2]
  simp [cutFrom]

theorem CutRel.from_le {s : ByteArray} {k f : Nat} {acc : List ByteArray} (h : CutRel s k f acc) (hk : k ≤ s.size) : f ≤ k := by
  unfold CutRel at h; rw [if_pos hk] at h; exact h.1

theorem CutRel.done {s : ByteArray} {f : Nat} {acc : List ByteArray} (h : CutRel s (s.size + 1) f acc) : acc = cutFrom s 10 0 s.size := by
  unfold CutRel at h; rwa [if_neg (by omega)] at h

theorem CutRel.start (s : ByteArray) : CutRel s 0 0 [] := by
  unfold CutRel; rw [if_pos (Nat.zero_le _)]; exact ⟨Nat.le_refl _, rfl⟩

def Pieces (B : Nat) (w : World) (ps : List ByteArray) (e : Ending) (w' : World) : Prop :=
  ∃ v, e = .returned v ∧ w'.ownsRow B 9 1 v ps.length (ps.map Value.string) ∧ Below w.heap.size w w'

set_option maxHeartbeats 1600000 in
set_option maxRecDepth 100000 in
theorem cut_any (s : ByteArray) (w : World) (hs : s.size ≤ 1048576) :
    Calls Tryd.prog 8 #[.string s, .int .u8 10] w (Pieces w.heap.size w (cutFrom s 10 0 s.size)) := by
  obtain ⟨i0, hi, hz0, hz1, hz2⟩ := info_parts info9
  go_enter Tryd.func8, Tryd.ntmps8
  go_wp2
  go_loopw [5, 6, 7] (fun v fr i wr => ∃ (k f : Nat) (acc : List ByteArray), k ≤ s.size + 1 ∧ f ≤ s.size + 1 ∧ i = .int .i64 k ∧ fr = .int .i64 f ∧ CutRel s k f acc ∧ wr.ownsRow w.heap.size 9 1 v acc.length (acc.map Value.string) ∧ Below w.heap.size w wr) (fun _ _ i _ => s.size + 1 - (intOf i).toNat)
  case atStart =>
    refine ⟨0, 0, [], by omega, by omega, rfl, rfl, CutRel.start s, ?_, ?_⟩
    · exact World.ownsRow_made w #[] 0 (Nat.le_refl _) (by decide) rfl
    · exact (Below.refl _ _).alloc (Nat.le_refl _) _
  case round =>
    obtain ⟨k, f, acc, hk, hf, rfl, rfl, hrel, hown, hbel⟩ := hrel
    have hlen := hrel.len
    have R := Lib.hid hrel; clear hrel
    by_cases h1 : k ≤ s.size
    · have hfk := R.out.from_le h1
      by_cases h2 : k < s.size
      · have hne : ((k : Int) == (s.size : Int)) = false := by simp; omega
        by_cases hb : s[k] = 10
        · have hb' : ((s[k].toNat : Int) == 10) = true := by rw [hb]; rfl
          have R2 := Lib.hid (R.out.hit h2 hb)
          clear R hb
          go_wp2_with (at_builtin; refine wpList_append_own _ rfl _ _ 25 rfl w.heap.size 9 i0 (.string ByteArray.empty) 1 16 Tryd.underlying25 hi hz0 hz1 hz2 rfl (by decide) _ _ _ rfl (hown.alloc _) ⟨wr.heap.size, 0, none⟩ 1 1 [.string (s.extract f k)] rfl rfl ?c1 ?c2 ?c3 ?c4 ?c5 ?_)
          case c1 => exact cell_one_new _ _ _
          case c2 => simp [Value.oneCell']
          case c3 => unfold maxLen; omega
          case c4 => omega
          case c5 => have := hbel.size; simp; omega
          intro v' w1 hown' hgrow _
          have hb1 : Below w.heap.size w w1 := (hbel.alloc hbel.size _).grown hgrow (by have := hbel.size; simp; omega) (fun j hj => (hown.lt j hj).1)
          clear hgrow hown hbel
          go_wp2
          go_roundw
          case rel => exact ⟨k + 1, k + 1, acc ++ [s.extract f k], by omega, by omega, by go_num, by go_num, R2.out, by simpa using hown', hb1⟩
          case measure => simp [intOf]; omega
        · have hb' : ((s[k].toNat : Int) == 10) = false := by
            rw [beq_eq_false_iff_ne]
            intro e
            exact hb (UInt8.toNat_inj.1 (show s[k].toNat = 10 by omega))
          have R2 := Lib.hid (R.out.skip h2 hb)
          clear R hb
          go_wp2
          go_roundw
          case rel => exact ⟨k + 1, f, acc, by omega, by omega, by go_num, rfl, R2.out, hown, hbel⟩
          case measure => simp [intOf]; omega
      · obtain rfl : k = s.size := by omega
        have R2 := Lib.hid R.out.last
        clear R
        have hne : ((s.size : Int) == (s.size : Int)) = true := by simp
        go_wp2_with (at_builtin; refine wpList_append_own _ rfl _ _ 25 rfl w.heap.size 9 i0 (.string ByteArray.empty) 1 16 Tryd.underlying25 hi hz0 hz1 hz2 rfl (by decide) _ _ _ rfl (hown.alloc _) ⟨wr.heap.size, 0, none⟩ 1 1 [.string (s.extract f s.size)] rfl rfl ?c1 ?c2 ?c3 ?c4 ?c5 ?_)
        case c1 => exact cell_one_new _ _ _
        case c2 => simp [Value.oneCell']
        case c3 => unfold maxLen; omega
        case c4 => omega
        case c5 => have := hbel.size; simp; omega
        intro v' w1 hown' hgrow _
        have hb1 : Below w.heap.size w w1 := (hbel.alloc hbel.size _).grown hgrow (by have := hbel.size; simp; omega) (fun j hj => (hown.lt j hj).1)
        clear hgrow hown hbel
        go_wp2
        go_roundw
        case rel => exact ⟨s.size + 1, s.size + 1, acc ++ [s.extract f s.size], by omega, by omega, by go_num, by go_num, R2.out, by simpa using hown', hb1⟩
        case measure => simp [intOf]
    · obtain rfl : k = s.size + 1 := by omega
      have R2 := Lib.hid R.out.done
      clear R
      go_wp2
      go_ret
      obtain rfl := R2.out
      exact ⟨_, rfl, hown, hbel⟩
end Go.Proofs.YtdcfailgakofeaaDoor
