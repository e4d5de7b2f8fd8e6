/-
  What the reference's and the program's 'lines of a text' hand back: all pieces but the last, and the last one (or whether it is empty and the text short).
-/
import Derived.Test.YtdcfailgakofeaaDoorCut
import Derived.Test.YtdcfailgakofeaaDoorShelf
import Derived.Deep.QuietTactic
import Derived.BigQuiet
import Derived.IntWalk
import Derived.WalkSmall
import Derived.Lib.SplitLaws
import Derived.ShapedOpen
namespace Go.Proofs.YtdcfailgakofeaaDoor
open Go.RowKit

/-- The slice at block g holds the first n of ps; old memory is as it was. -/
def LinesAt (w : World) (ps : List ByteArray) (n : Nat) (x : Value) (e : Ending) (w' : World) : Prop :=
  ∃ g cap, e = .returned (.tuple #[.slice (some ⟨g, 0, none⟩) n cap, x]) ∧ (∀ i, i < n → w'.cell? ⟨g, i, none⟩ = some (.string (ps.getD i ByteArray.empty))) ∧ Below w.heap.size w w'


set_option maxHeartbeats 1600000 in
set_option maxRecDepth 100000 in
theorem lines_spec (s : ByteArray) (w : World) (hs : s.size ≤ 1048576) (n : Nat) (hn : (cutFrom s 10 0 s.size).length = n + 1) :
    Calls Tryd.prog 6 #[.string s] w (LinesAt w (cutFrom s 10 0 s.size) n (.string ((cutFrom s 10 0 s.size).getD n ByteArray.empty))) := by
  have hcut := Lib.hid (cut_any s w hs)
  have hl := (cutFrom_length s 10 s.size 0 (Nat.le_refl _)).1
  rw [hn] at hl
  generalize hps : cutFrom s 10 0 s.size = ps at *
  have HP := Lib.hid hps
  have HN := Lib.hid hn
  clear hps hn
  go_enter Tryd.func6, Tryd.ntmps6
  go_wp2_with fail
  refine hcut.out.mono ?_
  rintro e w1 ⟨v, rfl, hown, hbel⟩
  rw [HN.out] at hown
  have hv : ∃ g cap, v = .slice (some ⟨g, 0, none⟩) (n + 1) cap ∧ n + 1 ≤ cap ∧ cap ≤ maxLen := by
    rcases hown.2 with ⟨_, h0⟩ | ⟨g, cap, cur, rfl, _, _, h1, h2, _⟩
    · omega
    · exact ⟨g, cap, rfl, h1, h2⟩
  obtain ⟨g, cap, rfl, hcap, hm⟩ := hv
  have hc : ∀ i, i < n + 1 → w1.cell? ⟨g, i, none⟩ = some (.string (ps.getD i ByteArray.empty)) := by
    intro i hi
    rw [hown.cellAt i (by omega)]
    have : i < ps.length := by have := HN.out; omega
    simp [this]
  have hcn := hc n (by omega)
  have HC := Lib.hid hc
  clear hc hown hcut
  unfold maxLen at hm
  go_wp2_with fail
  have hw1 : IntKind.i64.wrap ((n : Int) + 1 - 1) = (n : Int) := by rw [IntWalk.i64_in _ (by omega)]; omega
  have hle : (n : Int) ≤ (cap : Int) := by omega
  go_quiet (fail)
  go_wp2
  go_ret2
  refine ⟨g, cap, rfl, fun i hi => ?_, ?_⟩
  · rw [World.cell?_drewN]; exact HC.out i (by omega)
  · exact below_drewN hbel _

set_option maxHeartbeats 1600000 in
set_option maxRecDepth 100000 in
theorem lines_impl (s : ByteArray) (w : World) (h : w.ShapedOpen Tryd.prog) (hs : s.size ≤ 1048576) (n : Nat) (hn : (cutFrom s 10 0 s.size).length = n + 1) :
    Calls Tryd.prog 7 #[.string s] w (LinesAt w (cutFrom s 10 0 s.size) n (.bool (((cutFrom s 10 0 s.size).getD n ByteArray.empty).toList.isEmpty && decide ((s.size : Int) ≤ 16000)))) := by
  have hp := pieces_one s 10
  have hsp := Tryd.strings_Split_shaped s ⟨#[10]⟩ w h (by omega) (by decide)
  have hcl : Lib.countB s ⟨#[10]⟩ + 1 = n + 1 := by rw [← hn, hp, Lib.splitB_all _ (by decide) _ _ _ rfl]
  rw [hcl, ← hp] at hsp
  have hl := (cutFrom_length s 10 s.size 0 (Nat.le_refl _)).1
  rw [hn] at hl
  clear hp hcl
  generalize hps : cutFrom s 10 0 s.size = ps at *
  generalize hL : ps.getD n ByteArray.empty = last at *
  have HL := Lib.hid hL
  have HN := Lib.hid hn
  have HS := Lib.hid hsp
  clear hps hn hsp hL
  have hc : ∀ i, i < n + 1 → (w.alloc (.cells (ps.map Value.string).toArray 9)).cell? ⟨w.heap.size, i, none⟩ = some (.string (ps.getD i ByteArray.empty)) := by
    intro i hi
    have : i < ps.length := by have := HN.out; omega
    rw [World.cell?_alloc_at _ _ _ _ rfl]
    simp [this]
  have hcn := hc n (by omega)
  rw [HL.out] at hcn
  have HC := Lib.hid hc
  clear hc
  have hw1 : IntKind.i64.wrap ((n : Int) + 1 - 1) = (n : Int) := by rw [IntWalk.i64_in _ (by omega)]; omega
  have hle : (n : Int) ≤ (n : Int) + 1 := by omega
  have hin : (n : Int) < (n : Int) + 1 := by omega
  have fin : ∀ nq (x : Bool), LinesAt w ps n (.bool x) (.returned (.tuple #[.slice (some ⟨w.heap.size, 0, none⟩) n (n + 1), .bool x])) ((w.alloc (.cells (ps.map Value.string).toArray 9)).drewN nq) := fun nq x =>
    ⟨_, _, rfl, fun i hi => by rw [World.cell?_drewN]; exact HC.out i (by omega), below_drewN ((Below.refl _ _).alloc (Nat.le_refl _) _) _⟩
  have FIN := Lib.hid fin
  clear fin
  cases he : last.toList.isEmpty with
  | true =>
    by_cases h16 : (s.size : Int) ≤ 16000
    all_goals
      go_enter Tryd.func7, Tryd.ntmps7
      go_wp2_with fail
      refine HS.out.mono ?_
      rintro e w1 ⟨rfl, rfl⟩
      go_wp2_with fail
      go_quiet (fail)
      go_wp2
      go_ret2
      simp only [Bool.true_and]
      first
        | (rw [decide_eq_true h16]; exact FIN.out _ _)
        | (rw [decide_eq_false (by omega)]; exact FIN.out _ _)
  | false =>
    go_enter Tryd.func7, Tryd.ntmps7
    go_wp2_with fail
    refine HS.out.mono ?_
    rintro e w1 ⟨rfl, rfl⟩
    go_wp2_with fail
    go_quiet (fail)
    go_wp2
    go_ret2
    simp only [Bool.false_and]
    exact FIN.out _ _
end Go.Proofs.YtdcfailgakofeaaDoor
