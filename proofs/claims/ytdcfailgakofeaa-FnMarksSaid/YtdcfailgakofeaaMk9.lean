/-
  Walks: a list is turned round; two lists are stitched.
-/
import Derived.Test.YtdcfailgakofeaaMk8
namespace Go.Proofs.Ytdcfailgakofeaa
open Go.RowKit Go.Flt

/-- One list's words below i, another's from i on. -/
def mixW (a b : Nat → Nat) (i j : Nat) : Nat := if j < i then a j else b j
theorem mixW_none (a b : Nat → Nat) : mixW a b 0 = b := by funext j; simp [mixW]
theorem mixW_all (a b : Nat → Nat) (n : Nat) : (List.range n).map (fw (mixW a b n)) = (List.range n).map (fw a) := by
  apply List.map_congr_left
  intro j hj
  unfold fw mixW
  rw [if_pos (List.mem_range.1 hj)]
theorem mixW_set (a b : Nat → Nat) (n i : Nat) : ((List.range n).map (fw (mixW a b i))).set i (.float .f32 (a i)) = (List.range n).map (fw (mixW a b (i + 1))) := by
  apply List.ext_getElem
  · simp
  · intro j h1 h2
    rw [List.getElem_set]
    simp only [List.getElem_map, List.getElem_range, fw, mixW]
    by_cases e : i = j
    · subst e; rw [if_pos rfl, if_pos (by omega)]
    · rw [if_neg e]
      by_cases h : j < i
      · rw [if_pos h, if_pos (by omega)]
      · rw [if_neg h, if_neg (by omega)]
theorem mixW_app (a b : Nat → Nat) (n i : Nat) (h : n ≤ i) : ((List.range i).map (fw (mixW a b i))) ++ [.float .f32 (a i)] = (List.range (i + 1)).map (fw (mixW a b (i + 1))) := by
  rw [List.range_succ, List.map_append]
  congr 1
  · apply List.map_congr_left
    intro j hj
    have := List.mem_range.1 hj
    unfold fw mixW
    rw [if_pos this, if_pos (by omega)]
  · simp [fw, mixW]

theorem grown_trans {a b c : World} {row : Option Nat} (h : a.grownBy b row) (k : b.grownBy c row) : a.grownBy c row :=
  ⟨k.os.trans h.os, k.tape.trans h.tape, k.output.trans h.output, Nat.le_trans h.size k.size, fun i hi hne => (k.block i (Nat.lt_of_lt_of_le hi h.size) hne).trans (h.block i hi hne)⟩

/-- A row that is owned, turned round in its place. -/
def Turned3 (w : World) (base g n c : Nat) (ks : Nat → Nat) (e : Ending) (w' : World) : Prop :=
  e = .returned (.tuple #[]) ∧ w'.ownsRow base 27 1 (.slice (some ⟨g, 0, none⟩) n c) n ((List.range n).map (fw fun i => ks (n - 1 - i))) ∧ w.grownBy w' (some g)

set_option maxHeartbeats 1600000 in
set_option maxRecDepth 100000 in
theorem reverse1_any (base g c : Nat) (ks : Nat → Nat) (w : World) (ho : w.ownsRow base 27 1 (.slice (some ⟨g, 0, none⟩) 1 c) 1 ((List.range 1).map (fw ks))) :
    Calls Try.prog 68 #[.slice (some ⟨g, 0, none⟩) 1 c] w (Turned3 w base g 1 c ks) := by
  have HO := Lib.hid ho
  clear ho
  go_enter Try.func68, Try.ntmps68
  go_wp2
  go_loopw [2, 3] (fun ii jj wr => ii = .int .i64 0 ∧ jj = .int .i64 0 ∧ wr = w) (fun _ _ _ => 0)
  case atStart => exact ⟨rfl, rfl, rfl⟩
  case round =>
    obtain ⟨rfl, rfl, rfl⟩ := hrel
    go_wp2
    go_end0
    exact ⟨rfl, HO.out, ⟨rfl, rfl, rfl, Nat.le_refl _, fun _ _ _ => rfl⟩⟩

set_option maxHeartbeats 3200000 in
set_option maxRecDepth 100000 in
theorem reverse3_any (base g c : Nat) (ks : Nat → Nat) (w : World) (ho : w.ownsRow base 27 1 (.slice (some ⟨g, 0, none⟩) 3 c) 3 ((List.range 3).map (fw ks))) :
    Calls Try.prog 68 #[.slice (some ⟨g, 0, none⟩) 3 c] w (Turned3 w base g 3 c ks) := by
  have HO := Lib.hid ho
  have c0 : w.cell? ⟨g, 0, none⟩ = some (.float .f32 (ks 0)) := by rw [ho.cellAt 0 (by decide)]; rfl
  have c2 : w.cell? ⟨g, 2, none⟩ = some (.float .f32 (ks 2)) := by rw [ho.cellAt 2 (by decide)]; rfl
  have f0 : w.frozen? ⟨g, 0, none⟩ = false := ho.frozenAt 0
  have f2 : w.frozen? ⟨g, 2, none⟩ = false := ho.frozenAt 2
  have s1 := ho.stored 0 (.float .f32 (ks 2))
  have d2 : (w.setCell ⟨g, 0, none⟩ (.float .f32 (ks 2))).cell? ⟨g, 2, none⟩ = some (.float .f32 (ks 2)) := by rw [s1.1.cellAt 2 (by decide)]; rfl
  have e2 : (w.setCell ⟨g, 0, none⟩ (.float .f32 (ks 2))).frozen? ⟨g, 2, none⟩ = false := s1.1.frozenAt 2
  have s2 := s1.1.stored 2 (.float .f32 (ks 0))
  have s1' := ho.stored 2 (.float .f32 (ks 0))
  have d0 : (w.setCell ⟨g, 2, none⟩ (.float .f32 (ks 0))).cell? ⟨g, 0, none⟩ = some (.float .f32 (ks 0)) := by rw [s1'.1.cellAt 0 (by decide)]; rfl
  have e0 : (w.setCell ⟨g, 2, none⟩ (.float .f32 (ks 0))).frozen? ⟨g, 0, none⟩ = false := s1'.1.frozenAt 0
  have S : Hid (((w.setCell ⟨g, 0, none⟩ (.float .f32 (ks 2))).setCell ⟨g, 2, none⟩ (.float .f32 (ks 0))).ownsRow base 27 1 (.slice (some ⟨g, 0, none⟩) 3 c) 3 ((List.range 3).map (fw fun i => ks (3 - 1 - i))) ∧ w.grownBy ((w.setCell ⟨g, 0, none⟩ (.float .f32 (ks 2))).setCell ⟨g, 2, none⟩ (.float .f32 (ks 0))) (some g)) := ⟨s2.1, grown_trans s1.2 s2.2⟩
  have rs := run_store_float
  clear ho s1 s2 s1'
  go_enter Try.func68, Try.ntmps68
  go_wp2
  go_loopw [2, 3] (fun ii jj wr => ∃ i : Nat, i ≤ 1 ∧ ii = .int .i64 i ∧ jj = .int .i64 (2 - i) ∧ Hid (if i = 0 then wr = w else (wr.ownsRow base 27 1 (.slice (some ⟨g, 0, none⟩) 3 c) 3 ((List.range 3).map (fw fun i => ks (3 - 1 - i))) ∧ w.grownBy wr (some g)))) (fun ii _ _ => 1 - (intOf ii).toNat)
  case atStart => exact ⟨0, by omega, rfl, rfl, by show Hid _; unfold Hid; simp⟩
  case round =>
    obtain ⟨i, hi, rfl, rfl, h⟩ := hrel
    by_cases h0 : i = 0
    · subst h0
      obtain rfl : wr = w := by have := h.out; simpa using this
      clear h
      go_wp2
      go_region
      all_goals
        go_wp2
        go_roundw
        case rel => exact ⟨1, by omega, by go_num, by go_num, by show Hid _; unfold Hid; rw [if_neg (by decide)]; exact ⟨S.out.1.drew, grown_drew S.out.2⟩⟩
        case measure => simp [intOf]
    · obtain rfl : i = 1 := by omega
      have h' : wr.ownsRow base 27 1 (.slice (some ⟨g, 0, none⟩) 3 c) 3 ((List.range 3).map (fw fun i => ks (3 - 1 - i))) ∧ w.grownBy wr (some g) := by have := h.out; simpa using this
      have H := Lib.hid h'
      clear h h' HO S
      go_wp2
      go_end0
      exact ⟨rfl, H.out.1, H.out.2⟩
end Go.Proofs.Ytdcfailgakofeaa
