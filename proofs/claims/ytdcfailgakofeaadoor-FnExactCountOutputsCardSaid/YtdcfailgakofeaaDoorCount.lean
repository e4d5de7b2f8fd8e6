/-
  The reference's and the program's counts of outputs, for every text of at most 2^20 bytes.
-/
import Derived.Test.YtdcfailgakofeaaDoorLines
namespace Go.Proofs.YtdcfailgakofeaaDoor
open Go.RowKit

/-- Is an output 'no' or 'what'? -/
def isBad (p : ByteArray) : Bool := p.toList == [110, 111] || p.toList == [119, 104, 97, 116]

/-- How many of the first k are. -/
def badOf (ps : List ByteArray) (k : Nat) : Nat := ((ps.take k).filter isBad).length

theorem badOf_le (ps : List ByteArray) (k : Nat) : badOf ps k ≤ k := Nat.le_trans (List.length_filter_le _ _) (List.length_take_le _ _)

theorem badOf_succ (ps : List ByteArray) (k : Nat) (hk : k < ps.length) : badOf ps (k + 1) = badOf ps k + if isBad (ps.getD k ByteArray.empty) then 1 else 0 := by
  unfold badOf
  rw [List.take_succ_eq_append_getElem hk, List.filter_append, List.length_append]
  have : ps.getD k ByteArray.empty = ps[k] := by simp [hk]
  rw [this]
  cases h : isBad ps[k] <;> simp [List.filter_cons, h]

/-- What a text's outputs come to: how many are bad, how many are not, and that it is a text of lines. -/
def Counted (s : ByteArray) (n : Nat) (w : World) (e : Ending) (w' : World) : Prop :=
  (e = .returned (if (s.size : Int) ≤ 16000 ∧ ((cutFrom s 10 0 s.size).getD n ByteArray.empty).toList.isEmpty = true
    then .tuple #[.int .i64 (badOf (cutFrom s 10 0 s.size) n), .int .i64 ((n : Int) - badOf (cutFrom s 10 0 s.size) n), .bool true]
    else .tuple #[.int .i64 0, .int .i64 0, .bool false])) ∧ Below w.heap.size w w'

set_option maxHeartbeats 1600000 in
set_option maxRecDepth 100000 in
theorem count_spec (s : ByteArray) (w : World) (hs : s.size ≤ 1048576) (n : Nat) (hn : (cutFrom s 10 0 s.size).length = n + 1) :
    Calls Tryd.prog 4 #[.string s] w (Counted s n w) := by
  have hl := (cutFrom_length s 10 s.size 0 (Nat.le_refl _)).1
  rw [hn] at hl
  by_cases h16 : (s.size : Int) ≤ 16000
  · have hc := Lib.hid (lines_spec s w hs n hn)
    cases he : ((cutFrom s 10 0 s.size).getD n ByteArray.empty).toList.isEmpty with
    | false =>
      have FIN : Hid (∀ w', Below w.heap.size w w' → Counted s n w (.returned (.tuple #[.int .i64 0, .int .i64 0, .bool false])) w') := fun w' hb => ⟨by rw [if_neg (fun h => by rw [he] at h; exact absurd h.2 (by decide))], hb⟩
      generalize hps : cutFrom s 10 0 s.size = ps at *
      generalize hL : ps.getD n ByteArray.empty = last at *
      clear hps hn hL
      go_enter Tryd.func4, Tryd.ntmps4
      go_wp2_with fail
      refine hc.out.mono ?_
      rintro e w1 ⟨g, cap, rfl, hcell, hbel⟩
      have HC := Lib.hid hcell
      clear hcell hc
      go_wp2
      go_ret3
      exact FIN.out _ hbel
    | true =>
      have FIN : Hid (∀ w', Below w.heap.size w w' → Counted s n w (.returned (.tuple #[.int .i64 (badOf (cutFrom s 10 0 s.size) n), .int .i64 ((n : Int) - badOf (cutFrom s 10 0 s.size) n), .bool true])) w') := fun w' hb => ⟨by rw [if_pos ⟨h16, he⟩], hb⟩
      generalize hps : cutFrom s 10 0 s.size = ps at *
      generalize hL : ps.getD n ByteArray.empty = last at *
      have HN := Lib.hid hn
      clear hps hn hL
      go_enter Tryd.func4, Tryd.ntmps4
      go_wp2_with fail
      refine hc.out.mono ?_
      rintro e w1 ⟨g, cap, rfl, hcell, hbel⟩
      have HC := Lib.hid hcell
      clear hcell hc
      go_wp2
      go_loop [7, 8] (fun b i => ∃ k : Nat, k ≤ n ∧ i = .int .i64 k ∧ b = .int .i64 (badOf ps k)) (fun _ i => n - (intOf i).toNat)
      case atStart => exact ⟨0, Nat.zero_le _, rfl, rfl⟩
      case round =>
        obtain ⟨k, hk, rfl, rfl⟩ := hrel
        have hb0 := badOf_le ps k
        by_cases hlt : k < n
        · have hcell := HC.out k hlt
          have hs1 := badOf_succ ps k (by have := HN.out; omega)
          generalize hp : ps.getD k ByteArray.empty = p at *
          clear hp
          have hb1 := badOf_le ps (k + 1)
          cases h1 : (p.toList == [110, 111]) with
          | true =>
            have HB := Lib.hid (show badOf ps (k + 1) = badOf ps k + 1 by rw [hs1]; simp [isBad, h1])
            clear hs1
            go_wp2
            go_round
            case rel => exact ⟨k + 1, by omega, by go_num, by rw [HB.out]; go_num⟩
            case measure => simp [intOf]; omega
          | false =>
            cases h2 : (p.toList == [119, 104, 97, 116]) with
            | true =>
              have HB := Lib.hid (show badOf ps (k + 1) = badOf ps k + 1 by rw [hs1]; simp [isBad, h1, h2])
              clear hs1
              go_wp2
              go_round
              case rel => exact ⟨k + 1, by omega, by go_num, by rw [HB.out]; go_num⟩
              case measure => simp [intOf]; omega
            | false =>
              have HB := Lib.hid (show badOf ps (k + 1) = badOf ps k by rw [hs1]; simp [isBad, h1, h2])
              clear hs1
              go_wp2
              go_round
              case rel => exact ⟨k + 1, by omega, by go_num, by rw [HB.out]⟩
              case measure => simp [intOf]; omega
        · obtain rfl : k = n := by omega
          go_wp2
          go_ret3
          exact FIN.out _ hbel
  · have FIN : Hid (∀ w', Below w.heap.size w w' → Counted s n w (.returned (.tuple #[.int .i64 0, .int .i64 0, .bool false])) w') := fun w' hb => ⟨by rw [if_neg (by intro h; exact h16 h.1)], hb⟩
    go_enter Tryd.func4, Tryd.ntmps4
    go_wp2
    go_ret3
    exact FIN.out _ (Below.refl _ _)

set_option maxHeartbeats 1600000 in
set_option maxRecDepth 100000 in
theorem count_impl (s : ByteArray) (w : World) (h : w.ShapedOpen Tryd.prog) (hs : s.size ≤ 1048576) (n : Nat) (hn : (cutFrom s 10 0 s.size).length = n + 1) :
    Calls Tryd.prog 5 #[.string s] w (Counted s n w) := by
  have hl := (cutFrom_length s 10 s.size 0 (Nat.le_refl _)).1
  rw [hn] at hl
  have hc := Lib.hid (lines_impl s w h hs n hn)
  clear h
  by_cases hq : (s.size : Int) ≤ 16000 ∧ ((cutFrom s 10 0 s.size).getD n ByteArray.empty).toList.isEmpty = true
  · have FIN : Hid (∀ w', Below w.heap.size w w' → Counted s n w (.returned (.tuple #[.int .i64 (badOf (cutFrom s 10 0 s.size) n), .int .i64 ((n : Int) - badOf (cutFrom s 10 0 s.size) n), .bool true])) w') := fun w' hb => ⟨by rw [if_pos hq], hb⟩
    have hb : (((cutFrom s 10 0 s.size).getD n ByteArray.empty).toList.isEmpty && decide ((s.size : Int) ≤ 16000)) = true := by rw [hq.2, decide_eq_true hq.1]; rfl
    rw [hb] at hc
    generalize hps : cutFrom s 10 0 s.size = ps at *
    have HN := Lib.hid hn
    clear hps hn hb hq
    go_enter Tryd.func5, Tryd.ntmps5
    go_wp2_with fail
    refine hc.out.mono ?_
    rintro e w1 ⟨g, cap, rfl, hcell, hbel⟩
    have HC := Lib.hid hcell
    clear hcell hc
    go_wp2
    go_loop [7, 9, 19] (fun b _ i => ∃ k : Nat, k ≤ n ∧ i = .int .i64 k ∧ b = .int .i64 (badOf ps k)) (fun _ _ i => n - (intOf i).toNat)
    case atStart => exact ⟨0, Nat.zero_le _, rfl, rfl⟩
    case round =>
      obtain ⟨k, hk, rfl, rfl⟩ := hrel
      have hb0 := badOf_le ps k
      by_cases hlt : k < n
      · have hcell := HC.out k hlt
        have hs1 := badOf_succ ps k (by have := HN.out; omega)
        generalize hp : ps.getD k ByteArray.empty = p at *
        clear hp
        have hb1 := badOf_le ps (k + 1)
        cases h1 : (p.toList == [110, 111]) with
        | true =>
          have HB := Lib.hid (show badOf ps (k + 1) = badOf ps k + 1 by rw [hs1]; simp [isBad, h1])
          clear hs1
          go_wp2
          go_round
          case rel => exact ⟨k + 1, by omega, by go_num, by rw [HB.out]; go_num⟩
          case measure => simp [intOf]; omega
        | false =>
          cases h2 : (p.toList == [119, 104, 97, 116]) with
          | true =>
            have HB := Lib.hid (show badOf ps (k + 1) = badOf ps k + 1 by rw [hs1]; simp [isBad, h1, h2])
            clear hs1
            go_wp2
            go_round
            case rel => exact ⟨k + 1, by omega, by go_num, by rw [HB.out]; go_num⟩
            case measure => simp [intOf]; omega
          | false =>
            have HB := Lib.hid (show badOf ps (k + 1) = badOf ps k by rw [hs1]; simp [isBad, h1, h2])
            clear hs1
            go_wp2
            go_round
            case rel => exact ⟨k + 1, by omega, by go_num, by rw [HB.out]⟩
            case measure => simp [intOf]; omega
      · obtain rfl : k = n := by omega
        go_wp2
        go_ret3
        exact FIN.out _ hbel
  · have FIN : Hid (∀ w', Below w.heap.size w w' → Counted s n w (.returned (.tuple #[.int .i64 0, .int .i64 0, .bool false])) w') := fun w' hb => ⟨by rw [if_neg hq], hb⟩
    have hb : (((cutFrom s 10 0 s.size).getD n ByteArray.empty).toList.isEmpty && decide ((s.size : Int) ≤ 16000)) = false := by
      rw [Bool.and_eq_false_iff]
      by_cases h1 : (s.size : Int) ≤ 16000
      · exact Or.inl (Bool.eq_false_iff.2 fun h2 => hq ⟨h1, h2⟩)
      · exact Or.inr (decide_eq_false h1)
    rw [hb] at hc
    generalize hps : cutFrom s 10 0 s.size = ps at *
    clear hps hn hb hq
    go_enter Tryd.func5, Tryd.ntmps5
    go_wp2_with fail
    refine hc.out.mono ?_
    rintro e w1 ⟨g, cap, rfl, hcell, hbel⟩
    have HC := Lib.hid hcell
    clear hcell hc
    go_wp2
    go_ret3
    exact FIN.out _ hbel

end Go.Proofs.YtdcfailgakofeaaDoor
