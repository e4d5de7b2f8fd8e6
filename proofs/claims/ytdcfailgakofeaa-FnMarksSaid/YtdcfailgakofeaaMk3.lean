/-
  Walks: copies of lists; numbers drawn above 0; lists spread by a kernel.
-/
import Derived.Test.YtdcfailgakofeaaMk2
import Derived.Laws.Cover3
namespace Go.Proofs.Ytdcfailgakofeaa
open Go.RowKit Go.Flt

/-- Words as values. -/
def fw (xs : Nat → Nat) (i : Nat) : Value := .float .f32 (xs i)

/-- A new list of n words. -/
def FNew (w : World) (n : Nat) (xs : Nat → Nat) (e : Ending) (w' : World) : Prop :=
  ∃ a c, e = .returned (.slice a n c) ∧ w'.ownsRow w.heap.size 27 1 (.slice a n c) n ((List.range n).map (fw xs)) ∧ Below w.heap.size w w'
def FNewOk (w : World) (n : Nat) (xs : Nat → Nat) (e : Ending) (w' : World) : Prop :=
  ∃ a c, e = .returned (.tuple #[.slice a n c, .bool true]) ∧ w'.ownsRow w.heap.size 27 1 (.slice a n c) n ((List.range n).map (fw xs)) ∧ Below w.heap.size w w'

theorem own_frow {w : World} {base : Nat} {a : Option Addr} {n c : Nat} {xs : Nat → Nat} (h : w.ownsRow base 27 1 (.slice a n c) n ((List.range n).map (fw xs))) (hf : ∀ i, i < n → fin Ieee.single (xs i)) : FRow w a n xs := ⟨own_at h, hf⟩

theorem slice_not_nil (x : Addr) (n c : Nat) (w : World) : (binOp .eql 37 (.slice (some x) n c) (.slice none 0 0)).run Try.prog w = .ok (.bool false) w := by
  simp only [binOp]
  simp [run_equal_slice_nil (P := Try.prog) w 37 27 _ _ _ Try.underlying37]

set_option maxHeartbeats 1600000 in
set_option maxRecDepth 100000 in
theorem clone_any (a : Option Addr) (n cap : Nat) (xs : Nat → Nat) (w : World) (h1 : 1 ≤ n) (hn : n ≤ 100000) (hr : Row w a n fun i => .float .f32 (xs i)) :
    Calls Try.prog 59 #[.slice a n cap] w (FNew w n xs) := by
  obtain ⟨i0, hi, hz0, hz1, hz2⟩ := info_parts info27
  obtain ⟨b, o, rfl, hc0⟩ := hr 0 (by omega)
  have HR : Hid (∀ j u, ((List.range n).map (fw xs))[j]? = some u → w.cell? ((⟨b, o, none⟩ : Addr).add j) = some u) := fun j u hj => by
    have hjn : j < n := by
      rcases Nat.lt_or_ge j n with h | h
      · exact h
      · rw [List.getElem?_eq_none (by simpa using h)] at hj; cases hj
    obtain ⟨b', o', e1, e2⟩ := hr j hjn
    injection e1 with e1
    injection e1 with e3 e4
    subst e3; subst e4
    have hadd : (⟨b, o, none⟩ : Addr).add j = ⟨b, o + j, none⟩ := by unfold Addr.add; split <;> simp_all
    rw [hadd, e2]
    simp [hjn] at hj
    rw [← hj]; rfl
  have hlb := World.block_lt_of_cell? w _ hc0
  clear hr hc0
  have hn0 := slice_not_nil ⟨b, o, none⟩ n cap
  obtain ⟨L, hL⟩ : ∃ L, L = (List.range n).map (fw xs) := ⟨_, rfl⟩
  have HL := Lib.hid hL
  have hlen : L.length = n * 1 := by rw [hL]; simp
  have HC : Hid (∀ j u, L[j]? = some u → (w.alloc (.cells #[] 27)).cell? ((⟨b, o, none⟩ : Addr).add j) = some u) := fun j u hj => by
    rw [hL] at hj
    have h2 := HR.out j u hj
    have hblk : ((⟨b, o, none⟩ : Addr).add j).block = b := by unfold Addr.add; split <;> rfl
    exact (((Below.refl w.heap.size w).alloc (Nat.le_refl _) _).cell (by rw [hblk]; exact hlb)).trans h2
  have H1 : Hid (∀ u ∈ L, u.oneCell' = true) := fun u hu => by
    rw [hL] at hu
    obtain ⟨k, _, rfl⟩ := List.mem_map.1 hu
    rfl
  clear hL HR
  go_enter Try.func59, Try.ntmps59
  go_wp2_with (at_builtin; refine wpList_append_own _ rfl _ _ 37 rfl w.heap.size 27 i0 (.float .f32 0) 1 4 Try.underlying37 hi hz0 hz1 hz2 rfl (by decide) _ _ _ rfl (World.ownsRow_made (base := w.heap.size) (e := 27) (size := 1) w #[] 0 (Nat.le_refl _) (by decide) rfl) ⟨b, o, none⟩ n cap L rfl hlen HC.out H1.out ?c3 ?c4 ?c5 ?_)
  case c3 => unfold maxLen; omega
  case c4 => omega
  intro v' w3 hown' hgrow _
  have hb3 := Lib.hid (((Below.refl w.heap.size w).alloc (Nat.le_refl _) _).grown hgrow (by simp) (fun j hj => by
    have : j = w.heap.size := by simpa [Value.ownBlock] using hj.symm
    omega))
  have hown2 : w3.ownsRow w.heap.size 27 1 v' n ((List.range n).map (fw xs)) := by
    have e := HL.out
    subst e
    simpa using hown'
  obtain ⟨a', c', rfl, _⟩ := own_row hown2
  have HO := Lib.hid hown2
  clear hgrow hown' hown2 hn0
  go_wp2
  go_ret
  exact ⟨a', c', rfl, HO.out, hb3.out⟩
end Go.Proofs.Ytdcfailgakofeaa
