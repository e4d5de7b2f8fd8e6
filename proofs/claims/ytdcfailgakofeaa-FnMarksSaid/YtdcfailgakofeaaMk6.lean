/-
  Walk: marks are taken away.
-/
import Derived.Test.YtdcfailgakofeaaMk5
namespace Go.Proofs.Ytdcfailgakofeaa
open Go.RowKit Go.Flt

/-- Half the sum of the neighbours. -/
def halfW (xs : Nat → Nat) (i : Nat) : Nat := ((floatBits .add .f32 (xs (i - 1)) (xs (i + 1))).bind fun s => floatBits .mul .f32 1056964608 s).getD 0
def cleanW (xs : Nat → Nat) (bar n i : Nat) : Nat := if isPk xs bar n i then halfW xs i else xs i

structure Halves (xs : Nat → Nat) (n : Nat) : Prop where
  told : ∀ i, 1 ≤ i → i + 1 < n → ∃ s, floatBits .add .f32 (xs (i - 1)) (xs (i + 1)) = some s ∧ floatBits .mul .f32 1056964608 s = some (halfW xs i) ∧ fin Ieee.single (halfW xs i)

theorem pk_range {xs : Nat → Nat} {bar n i : Nat} (h : isPk xs bar n i = true) : 1 ≤ i ∧ i + 1 < n := by
  unfold isPk at h
  simp only [Bool.and_eq_true, decide_eq_true_eq] at h
  exact ⟨h.1.1, h.1.2⟩

/-- The list with the first k marks taken away. -/
def partW (xs : Nat → Nat) (ms : List Nat) (k i : Nat) : Nat := if i ∈ ms.take k then halfW xs i else xs i

theorem partW_set (xs : Nat → Nat) (ms : List Nat) (n k : Nat) (hk : k < ms.length) :
    ((List.range n).map (fw (partW xs ms k))).set ms[k] (.float .f32 (halfW xs ms[k])) = (List.range n).map (fw (partW xs ms (k + 1))) := by
  apply List.ext_getElem
  · simp
  · intro i h1 h2
    simp at h1
    have ht : ms.take (k + 1) = ms.take k ++ [ms[k]] := by rw [List.take_add_one, List.getElem?_eq_getElem hk]; rfl
    rw [List.getElem_set]
    by_cases e : ms[k] = i
    · rw [if_pos e]
      simp only [List.getElem_map, List.getElem_range, fw, partW, ht]
      rw [if_pos (by rw [List.mem_append]; right; rw [e]; simp), e]
    · rw [if_neg e]
      simp only [List.getElem_map, List.getElem_range, fw, partW, ht]
      have : (i ∈ ms.take k ++ [ms[k]]) ↔ i ∈ ms.take k := by
        rw [List.mem_append, List.mem_singleton]
        constructor
        · rintro (h | h)
          · exact h
          · exact absurd h.symm e
        · exact Or.inl
      simp only [this]

theorem partW_none (xs : Nat → Nat) (ms : List Nat) : partW xs ms 0 = xs := by funext i; simp [partW]
theorem partW_all (xs : Nat → Nat) (bar n i : Nat) (h : i < n) : partW xs (marksTo xs bar n n) (marksTo xs bar n n).length i = cleanW xs bar n i := by
  unfold partW cleanW
  rw [List.take_length]
  have : (i ∈ marksTo xs bar n n) ↔ isPk xs bar n i = true := by
    unfold marksTo
    rw [List.mem_filter, List.mem_range]
    exact ⟨fun h => h.2, fun h' => ⟨h, h'⟩⟩
  simp only [this]

set_option maxHeartbeats 3200000 in
set_option maxRecDepth 100000 in
theorem remove_any (a : Option Addr) (n cap : Nat) (xs : Nat → Nat) (bar : Nat) (w : World) (h3 : 3 ≤ n) (hn : n ≤ 64) (hr : FRow w a n xs) (hb : fin Ieee.single bar) (hb0 : 0 ≤ fval Ieee.single bar) (hp : Peaks xs n) (hh : Halves xs n) :
    Calls Try.prog 20 #[.slice a n cap, .float .f32 bar] w (FNewOk w n (cleanW xs bar n)) := by
  have HM := Lib.hid (marks_any a n cap xs bar w h3 hn hr hb hb0 hp)
  have HC := Lib.hid (fun w' (hb : Below w.heap.size w w') => clone_any a n cap xs w' (by omega) (by omega) (hr.row.below hb))
  have HR := Lib.hid hr
  have HH := Lib.hid hh
  obtain ⟨ms, hms⟩ : ∃ ms, ms = marksTo xs bar n n := ⟨_, rfl⟩
  rw [← hms] at HM
  have HMS := Lib.hid hms
  have hml : ms.length ≤ 64 := by rw [hms]; have := marksTo_le xs bar n n; omega
  have hmr : Hid (∀ k (h : k < ms.length), 1 ≤ ms[k] ∧ ms[k] + 1 < n) := fun k h => by
    have hmem : ms[k] ∈ marksTo xs bar n n := by rw [← hms]; exact List.getElem_mem _
    unfold marksTo at hmem
    rw [List.mem_filter] at hmem
    exact pk_range hmem.2
  have hnot : ∀ (b : Bool) (w : World), (Op.unary .not (.bool b)).run Try.prog w = .ok (.bool (!b)) w := fun _ _ => rfl
  have rs := run_store_float
  clear hr hp hh hb hb0 hms
  go_enter Try.func20, Try.ntmps20
  go_wp2_with fail
  refine HM.out.mono ?_
  rintro e w1 ⟨ma, mc, rfl, om, bm⟩
  have OM := Lib.hid om
  have BM := Lib.hid bm
  clear om bm HM
  go_wp2_with fail
  refine (HC.out _ BM.out).mono ?_
  rintro e w2 ⟨oa, oc, rfl, oo, bo⟩
  have hgs : ∃ g, oa = some ⟨g, 0, none⟩ := by
    rcases oo.2 with ⟨h1, h2⟩ | ⟨g, cap', cur, h1, _⟩
    · omega
    · injection h1 with h1; exact ⟨g, h1⟩
  obtain ⟨g, rfl⟩ := hgs
  have O2 := Lib.hid oo
  have M2 := Lib.hid (owns_below OM.out bo)
  have B2 := Lib.hid (BM.out.trans (bo.mono BM.out.size))
  have hg0 : w1.heap.size ≤ g := (oo.lt g rfl).1
  have hgw : w.heap.size ≤ g := Nat.le_trans BM.out.size hg0
  clear oo bo OM BM HC
  go_wp2
  go_loopw [23] (fun kk wr => ∃ k : Nat, k ≤ ms.length ∧ kk = .int .i64 k ∧ Hid (wr.ownsRow w1.heap.size 27 1 (.slice (some ⟨g, 0, none⟩) n oc) n ((List.range n).map (fw (partW xs ms k)))) ∧ Hid (wr.ownsRow w.heap.size 2 1 (.slice ma ms.length mc) ms.length (ms.map fun (m : Nat) => Value.int .i64 m)) ∧ Hid (Below w.heap.size w wr)) (fun kk _ => ms.length - (intOf kk).toNat)
  case atStart => exact ⟨0, Nat.zero_le _, rfl, by rw [partW_none]; exact O2.out, M2.out, B2.out⟩
  case round =>
    obtain ⟨k, hk, rfl, ho, hm, hbel⟩ := hrel
    by_cases hlt : k < ms.length
    · obtain ⟨r1, r2⟩ := hmr.out k hlt
      obtain ⟨i, hi⟩ : ∃ i, i = ms[k] := ⟨_, rfl⟩
      rw [← hi] at r1 r2
      have hrowm : Row wr ma ms.length (fun j => .int .i64 ((ms.getD j 0 : Nat) : Int)) := by
        have e : (ms.map fun (m : Nat) => Value.int .i64 m) = (List.range ms.length).map (fun j => Value.int .i64 ((ms.getD j 0 : Nat) : Int)) := by
          apply List.ext_getElem
          · simp
          · intro j h1 h2
            simp at h1
            simp [h1]
        have := hm.out
        rw [e] at this
        exact own_at this
      obtain ⟨mb, mo, rfl, hcm0⟩ := hrowm k hlt
      have hcm : wr.cell? ⟨mb, mo + k, none⟩ = some (.int .i64 (i : Int)) := by rw [hcm0, hi]; simp [hlt]
      obtain ⟨b, off, rfl, hc1⟩ := HR.out.row (i - 1) (by omega)
      obtain ⟨b', off', e1, hc2⟩ := HR.out.row (i + 1) (by omega)
      injection e1 with e1; injection e1 with e3 e4
      subst e3; subst e4
      have hblk := World.block_lt_of_cell? w _ hc1
      have c1 := (hbel.out.cell (p := ⟨b, off + (i - 1), none⟩) hblk).trans hc1
      have c2 := (hbel.out.cell (p := ⟨b, off + (i + 1), none⟩) hblk).trans hc2
      obtain ⟨s, hs1, hs2, _⟩ := HH.out.told i r1 r2
      have a1 := ar hs1 27
      have a2 := ar hs2 27
      have hco : ∃ u, wr.cell? ⟨g, i, none⟩ = some u := by
        rw [ho.out.cellAt i (by omega)]; simp [show i < n by omega]
      obtain ⟨u, hco⟩ := hco
      have hfo : wr.frozen? ⟨g, i, none⟩ = false := ho.out.frozenAt i
      have hst := ho.out.stored i (.float .f32 (halfW xs i))
      rw [hi, partW_set xs ms n k hlt, ← hi] at hst
      have HST := Lib.hid hst.1
      have HMK := Lib.hid (hm.out.kept hst.2 (own_types hm.out ho.out (by decide)))
      have HBK := Lib.hid (hbel.out.grown hst.2 hbel.out.size (fun j hj => by cases hj; exact hgw))
      have e5 : ((i : Int) - 1) = ((i - 1 : Nat) : Int) := by omega
      have hni : (i : Int) + 1 < (n : Int) := by omega
      clear hcm0 hc1 hc2 hs1 hs2 hst hrowm
      clear hi
      go_wp2
      go_region
      go_wp2
      go_roundw
      case rel => exact ⟨k + 1, by omega, by go_num, HST.out, HMK.out, below_drewN HBK.out 1⟩
      case measure => simp [intOf]; omega
    · obtain rfl : k = ms.length := by omega
      have hfrow : FRow wr (some ⟨g, 0, none⟩) n (cleanW xs bar n) := by
        have h1 := ho.out
        have e : (List.range n).map (fw (partW xs ms ms.length)) = (List.range n).map (fw (cleanW xs bar n)) := by
          apply List.map_congr_left
          intro i hi
          unfold fw
          rw [HMS.out, partW_all xs bar n i (List.mem_range.1 hi)]
        rw [e] at h1
        refine own_frow h1 (fun i hi => ?_)
        unfold cleanW
        cases hpk : isPk xs bar n i with
        | true =>
          obtain ⟨r1, r2⟩ := pk_range hpk
          obtain ⟨_, _, _, h4⟩ := HH.out.told i r1 r2
          simpa using h4
        | false => simpa using HR.out.fin i hi
      have HK := Lib.hid (checkedN_any (some ⟨g, 0, none⟩) n oc _ wr (by omega) hfrow)
      have hfin : wr.ownsRow w.heap.size 27 1 (.slice (some ⟨g, 0, none⟩) n oc) n ((List.range n).map (fw (cleanW xs bar n))) := by
        have h1 := ho.out
        have e : (List.range n).map (fw (partW xs ms ms.length)) = (List.range n).map (fw (cleanW xs bar n)) := by
          apply List.map_congr_left
          intro i hi
          unfold fw
          rw [HMS.out, partW_all xs bar n i (List.mem_range.1 hi)]
        rw [e] at h1
        refine ⟨h1.1, ?_⟩
        rcases h1.2 with h2 | ⟨g', c', cur, q1, q2, q3⟩
        · exact Or.inl h2
        · injection q1 with q1 q1b q1c
          injection q1 with q1; injection q1 with q1 _ _
          subst q1
          exact Or.inr ⟨g, c', cur, by rw [q1c], hgw, q3⟩
      have HFIN := Lib.hid hfin
      clear hfrow hfin ho hm
      go_wp2_with fail
      refine HK.out.mono ?_
      rintro e w3 ⟨rfl, hb3⟩
      go_wp2
      go_ret2
      exact ⟨_, _, rfl, owns_below HFIN.out hb3, hbel.out.trans (hb3.mono hbel.out.size)⟩
end Go.Proofs.Ytdcfailgakofeaa
