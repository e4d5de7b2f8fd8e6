/-
  The program's ScanLines.
-/
import Derived.Test.YtdcfailgakofeaaWk5
import Derived.Test.YtdcfailgakofeaaScan
namespace Go.Proofs.Ytdcfailgakofeaa
open Go.RowKit Go.Flt

theorem info30 : (Try.prog.info? 30).map (fun i => (i.zero, i.size, i.bytes)) = some (some (.complex .f32 0 0), 1, 8) := by kernel_rfl
theorem u3' : (Try.prog.underlying 3).isSome = true := by rw [Try.underlying3]; rfl

/-- A complex word. -/
def cx (p : Nat × Nat) : Value := .complex .f32 p.1 p.2

/-- The lines so far are like those told. -/
def LinesLike (xs : Nat → Nat) (n : Nat) (acc : List (Nat × Nat)) : Prop :=
  ∀ k (h : k < acc.length), LikeC (lineAcc xs n k n).1 (lineAcc xs n k n).2 acc[k].1 acc[k].2

/-- Slice v of the call's own bears ys; old memory is as it was; the answer is v and ok. -/
def Lined (w : World) (ok : Bool) (ys : List (Nat × Nat)) (e : Ending) (w' : World) : Prop :=
  ∃ v, e = .returned (.tuple #[v, .bool ok]) ∧ w'.ownsRow w.heap.size 30 1 v ys.length (ys.map cx) ∧ Below w.heap.size w w'

theorem LinesLike.snoc {xs : Nat → Nat} {n : Nat} {acc : List (Nat × Nat)} {x y : Nat} (h : LinesLike xs n acc) (hl : LikeC (lineAcc xs n acc.length n).1 (lineAcc xs n acc.length n).2 x y) : LinesLike xs n (acc ++ [(x, y)]) := by
  intro k hk
  by_cases h1 : k < acc.length
  · rw [List.getElem_append_left h1]; exact h k h1
  · have : k = acc.length := by simp at hk; omega
    subst this
    simpa using hl

/-- What is owned stays owned where everything that was there stays. -/
theorem owns_below {w w' : World} {base : Nat} {e : TypeId} {size : Nat} {v : Value} {n : Nat} {xs : List Value} (h : w.ownsRow base e size v n xs) (hb : Below w.heap.size w w') : w'.ownsRow base e size v n xs := by
  refine ⟨h.1, ?_⟩
  rcases h.2 with h1 | ⟨g, cap, cur, e1, e2, e3, e4⟩
  · exact Or.inl h1
  · exact Or.inr ⟨g, cap, cur, e1, e2, (hb.block g (Array.getElem?_eq_some_iff.1 e3).1).trans e3, e4⟩

theorem LinesLike.nil (xs : Nat → Nat) (n : Nat) : LinesLike xs n [] := fun k hk => by simp at hk

theorem anyOf_false (p : Nat → Bool) (n : Nat) : anyOf p n = false ↔ ∀ i, i < n → p i = false := by
  rw [← Bool.not_eq_true, anyOf_iff]
  constructor
  · intro h i hi
    cases hp : p i
    · rfl
    · exact absurd ⟨i, hi, hp⟩ h
  · rintro h ⟨i, hi, hp⟩
    rw [h i hi] at hp; cases hp

theorem lines_all {xs : Nat → Nat} {n : Nat} {acc : List (Nat × Nat)} (hl : acc.length = n / 2 + 1) (h : LinesLike xs n acc) :
    allC (fun i => (acc.getD i (0, 0)).1) (fun i => (acc.getD i (0, 0)).2) acc.length = scanGood xs n := by
  have each : ∀ k, k < acc.length → finC (acc.getD k (0, 0)).1 (acc.getD k (0, 0)).2 = finO (lineAcc xs n k n).1 (lineAcc xs n k n).2 := by
    intro k hk
    have := h k hk
    have e : acc.getD k (0, 0) = acc[k] := by simp [hk]
    rw [e]
    exact like_fin this.lre this.lim
  unfold allC
  cases hg : scanGood xs n with
  | true =>
    unfold scanGood at hg
    rw [List.all_eq_true] at hg
    have : anyOf (fun i => !finC (acc.getD i (0, 0)).1 (acc.getD i (0, 0)).2) acc.length = false := by
      rw [anyOf_false]
      intro k hk
      rw [each k hk, hg k (by rw [List.mem_range]; omega)]; rfl
    rw [this]; rfl
  | false =>
    unfold scanGood at hg
    have : ¬ ∀ k ∈ List.range (n / 2 + 1), finO (lineAcc xs n k n).1 (lineAcc xs n k n).2 = true := by
      intro hall; rw [List.all_eq_true.2 hall] at hg; cases hg
    have : anyOf (fun i => !finC (acc.getD i (0, 0)).1 (acc.getD i (0, 0)).2) acc.length = true := by
      rw [← Bool.not_eq_false, anyOf_false]
      intro hall
      apply this
      intro k hk
      rw [List.mem_range] at hk
      have h1 := hall k (by omega)
      rw [each k (by omega)] at h1
      cases hf : finO (lineAcc xs n k n).1 (lineAcc xs n k n).2
      · rw [hf] at h1; cases h1
      · rfl
    rw [this]; rfl

theorem lines_eq {xs : Nat → Nat} {n : Nat} {acc : List (Nat × Nat)} (hl : acc.length = n / 2 + 1) (h : LinesLike xs n acc) (hg : scanGood xs n = true) : acc = scanList xs n := by
  unfold scanGood at hg
  rw [List.all_eq_true] at hg
  unfold scanList
  apply List.ext_getElem
  · simp [hl]
  · intro k h1 h2
    simp only [List.getElem_map, List.getElem_range]
    have hk := h k h1
    obtain ⟨e1, e2⟩ := like_eq hk.lre hk.lim (hg k (by rw [List.mem_range]; omega))
    rw [e1, e2]; rfl

set_option maxHeartbeats 3200000 in
set_option maxRecDepth 100000 in
theorem scanLines_in (b off n cap : Nat) (xs : Nat → Nat) (w : World) (h2 : 2 ≤ n) (h64 : n ≤ 64) (hr : ∀ i, i < n → w.cell? ⟨b, off + i, none⟩ = some (.float .f32 (xs i))) (hx : ∀ i, i < n → W32 (xs i)) (hfin : anyOf (fun i => !finB Ieee.single (xs i)) n = false) :
    Calls Try.prog 28 #[.slice (some ⟨b, off, none⟩) n cap] w (Lined w (scanOk xs n) (scanOut xs n)) := by
  have HI := Lib.hid (isScan_any (some ⟨b, off, none⟩) n cap xs w (by omega) (fun i hi => ⟨b, off, rfl, hr i hi⟩) hx)
  rw [hfin, decide_eq_true ⟨h2, h64⟩] at HI
  obtain ⟨i0, hi, hz0, hz1, hz2⟩ := info_parts info30
  have hb : b < w.heap.size := World.block_lt_of_cell? w _ (hr 0 (by omega))
  have HR := Lib.hid hr
  have HF := Lib.hid hfin
  clear hr hfin
  have hnot : ∀ (b : Bool) (w : World), (Op.unary .not (.bool b)).run Try.prog w = .ok (.bool (!b)) w := fun _ _ => rfl
  have hneg : ∀ (x : Nat) (w : World), (Op.unary .neg (.float .f64 x)).run Try.prog w = .ok (.float .f64 (opp64 x)) w := fun _ _ => rfl
  go_enter Try.func28, Try.ntmps28
  go_wp2_with fail
  refine HI.out.mono ?_
  rintro e w1 ⟨rfl, hb1⟩
  clear HI
  go_wp2
  have hsz := hb1.size
  go_loopw [5, 19] (fun v kk wr => ∃ (k : Nat) (acc : List (Nat × Nat)), k ≤ n / 2 + 1 ∧ kk = .int .i64 k ∧ Hid (acc.length = k) ∧ Hid (LinesLike xs n acc) ∧ wr.ownsRow w.heap.size 30 1 v acc.length (acc.map cx) ∧ Below w.heap.size w wr) (fun _ kk _ => n / 2 + 1 - (intOf kk).toNat)
  case atStart =>
    refine ⟨0, [], by omega, rfl, rfl, LinesLike.nil xs n, ?_, ?_⟩
    · exact World.ownsRow_made w1 #[] 0 hsz (by decide) rfl
    · exact hb1.alloc hsz _
  case round =>
    obtain ⟨k, acc, hk, rfl, hlen, hlike, hown, hbel⟩ := hrel
    by_cases hlt : k < n / 2 + 1
    · obtain ⟨wo, rfl⟩ : ∃ wo : World, wo = wr := ⟨_, rfl⟩
      have hdk : decide ((k : Int) < (n : Int) / 2 + 1) = true := by rw [decide_eq_true_iff]; omega
      go_wp2
      go_loopw [7, 24] (fun al jj wi => ∃ (i x y m : Nat), i ≤ n ∧ jj = .int .i64 i ∧ al = .complex .f32 x y ∧ Hid (LikeC (lineAcc xs n k i).1 (lineAcc xs n k i).2 x y) ∧ wi = wo.drewN m) (fun _ jj _ => n - (intOf jj).toNat)
      case atStart => exact ⟨0, 0, 0, 0, by omega, rfl, rfl, ⟨rfl, rfl, by unfold W32; decide, by unfold W32; decide⟩, rfl⟩
      case round =>
        obtain ⟨i, x, y, m, hin, rfl, rfl, hlc, rfl⟩ := hrel
        by_cases hii : i < n
        · have hc := (hbel.cell (p := ⟨b, off + i, none⟩) hb).trans (HR.out i hii)
          have ht := turns_good (show k ≤ 64 by omega) (show i ≤ 64 by omega) h2 h64
          have hq := (quo_good (show k ≤ 64 by omega) (show i ≤ 64 by omega) h2 h64).1
          have a1 : ∀ w, (binOp .quo 33 (.float .f64 (floatOfInt .f64 ((k : Int) * (i : Int)))) (.float .f64 (floatOfInt .f64 (n : Int)))).run Try.prog w = .ok (.float .f64 (quoOf k i n)) w := ar hq 33
          have hw : wrap64 ((k : Int) * (i : Int)) = (k : Int) * (i : Int) := by
            have : k * i ≤ 64 * 64 := Nat.mul_le_mul (by omega) (by omega)
            have e1 : (k : Int) * (i : Int) = ((k * i : Nat) : Int) := by simp
            rw [e1]
            unfold wrap64; omega
          have HP := Lib.hid (fun w => phasor_any _ _ _ w ht (ph_some ht))
          have LC := Lib.hid hlc.out
          clear ht hq hlc
          go_wp2_with fail
          refine (HP.out _).mono ?_
          rintro e w2 ⟨rfl, rfl⟩
          go_wp2_with fail
          refine (scale_any (some (phOf (turnsOf k i n)).1) (some (phOf (turnsOf k i n)).2) _ _ (xs i) _ ?_).mono ?_
          · obtain ⟨a, b, hp, fa, fb, _, _⟩ := phasor_good (turns_good (show k ≤ 64 by omega) (show i ≤ 64 by omega) h2 h64)
            have e1 : phOf (turnsOf k i n) = (a, b) := by unfold phOf; rw [hp]; rfl
            rw [e1]
            exact ⟨rfl, rfl, fa.1, fb.1⟩
          rintro e w2 ⟨sx, sy, m2, rfl, hs, rfl⟩
          have HS := Lib.hid hs
          clear hs
          go_wp2_with fail
          refine (plus_any _ _ _ _ _ _ _ _ _ LC.out HS.out).mono ?_
          rintro e w2 ⟨rx, ry, m3, rfl, hrr, rfl⟩
          have HRR := Lib.hid hrr
          clear hrr
          go_wp2
          go_roundw
          case rel => exact ⟨i + 1, rx, ry, _, by omega, by go_num, rfl, HRR.out, rfl⟩
          case measure => simp [intOf]; omega
        · have LC := Lib.hid hlc.out
          rw [show i = n by omega] at LC
          have hacc := hlen.out
          have hown2 : (wo.drewN m).ownsRow w.heap.size 30 1 u5 acc.length (acc.map cx) := hown
          have hbel2 : Below w.heap.size w (wo.drewN m) := below_drewN hbel m
          have hacl : acc.length ≤ 64 := by omega
          have HL := Lib.hid hacc
          clear hown hbel hlc hlen hacc
          go_wp2_with (at_builtin; refine wpList_append_own _ rfl _ _ 25 rfl w.heap.size 30 i0 (.complex .f32 0 0) 1 8 Try.underlying25 hi hz0 hz1 hz2 rfl (by decide) _ _ _ rfl (hown2.alloc _) ⟨wo.heap.size, 0, none⟩ 1 1 [.complex .f32 x y] rfl rfl ?c1 ?c2 ?c3 ?c4 ?c5 ?_)
          case c1 => exact cell_one_new _ _ _
          case c2 => simp [Value.oneCell']
          case c3 => unfold maxLen; omega
          case c4 => omega
          case c5 => have := hbel2.size; simp at this ⊢; omega
          intro v' w3 hown' hgrow _
          have hb3 : Below w.heap.size w w3 := (hbel2.alloc hbel2.size _).grown hgrow (by have := hbel2.size; simp at this ⊢; omega) (fun j hj => (hown2.lt j hj).1)
          clear hgrow hown2 hbel2
          go_wp2
          go_roundw
          case rel => exact ⟨k + 1, acc ++ [(x, y)], by omega, by go_num, by have := HL.out; unfold Hid; simp; omega, (by have h0 := hlike.out; rw [← HL.out] at LC; exact h0.snoc LC.out), by simpa [cx] using hown', hb3⟩
          case measure => simp [intOf]; omega
    · have hkn : acc.length = n / 2 + 1 := by have := hlen.out; omega
      have hl64 : acc.length ≤ 64 := by omega
      have hv : ∃ g cap, u5 = .slice (some ⟨g, 0, none⟩) acc.length cap := by
        rcases hown.2 with ⟨_, h0⟩ | ⟨g, cap, cur, h0, _⟩
        · omega
        · exact ⟨g, cap, h0⟩
      obtain ⟨g, gc, rfl⟩ := hv
      have hrow : Row wr (some ⟨g, 0, none⟩) acc.length fun i => .complex .f32 (acc.getD i (0, 0)).1 (acc.getD i (0, 0)).2 := by
        intro i hi
        refine ⟨g, 0, rfl, ?_⟩
        rw [Nat.zero_add, hown.cellAt i (by simpa using hi)]
        simp [hi, cx]
      have hall := lines_all hkn hlike.out
      have HC := Lib.hid (checkedComplex_any (some ⟨g, 0, none⟩) acc.length gc _ _ wr (by omega) hrow (fun i hi => by
        have := hlike.out i hi
        have e : acc.getD i (0, 0) = acc[i] := by simp [hi]
        rw [e]; exact ⟨this.wre, this.wim⟩))
      rw [hall] at HC
      have hok : scanOk xs n = scanGood xs n := by
        unfold scanOk
        rw [decide_eq_true ⟨h2, h64⟩]
        have : (List.range n).all (fun i => finB Ieee.single (xs i)) = true := by
          rw [List.all_eq_true]
          intro i hi
          rw [List.mem_range] at hi
          have := (anyOf_false _ _).1 HF.out i hi
          simpa using this
        rw [this]; rfl
      have hacc : scanGood xs n = true → acc = scanList xs n := lines_eq hkn hlike.out
      have HO := Lib.hid hok
      have HA := Lib.hid hacc
      have HW := Lib.hid hown
      clear hrow hall hok hacc hown hlen hlike hkn
      cases hg : scanGood xs n with
      | true =>
        rw [hg] at HC
        simp only [if_true] at HC
        go_wp2_with fail
        refine HC.out.mono ?_
        rintro e w3 ⟨rfl, hb3⟩
        have hb4 := hbel.trans (hb3.mono hbel.size)
        go_wp2
        go_ret2
        refine ⟨_, by rw [HO.out, hg]; rfl, ?_, hb4⟩
        unfold scanOut
        rw [HO.out, hg, if_pos rfl, ← HA.out hg]
        exact owns_below HW.out hb3
      | false =>
        rw [hg] at HC
        simp only [Bool.false_eq_true, if_false] at HC
        go_wp2_with fail
        refine HC.out.mono ?_
        rintro e w3 ⟨rfl, hb3⟩
        have hb4 := hbel.trans (hb3.mono hbel.size)
        go_wp2
        go_ret2
        refine ⟨_, by rw [HO.out, hg]; rfl, ?_, hb4⟩
        unfold scanOut
        rw [HO.out, hg, if_neg (by simp)]
        exact World.ownsRow_nil _ _ _ _

/-- Is a list a scan? -/
def scanIs (xs : Nat → Nat) (n : Nat) : Bool := decide (2 ≤ n ∧ n ≤ 64) && !anyOf (fun i => !finB Ieee.single (xs i)) n

theorem not_scan {xs : Nat → Nat} {n : Nat} (h : scanIs xs n = false) : scanOk xs n = false := by
  unfold scanIs at h
  unfold scanOk
  cases hd : decide (2 ≤ n ∧ n ≤ 64)
  · rfl
  · rw [hd, Bool.true_and] at h
    have ha : anyOf (fun i => !finB Ieee.single (xs i)) n = true := by simpa using h
    obtain ⟨i, hi, hp⟩ := (anyOf_iff _ _).1 ha
    have : (List.range n).all (fun i => finB Ieee.single (xs i)) = false := by
      rw [← Bool.not_eq_true, List.all_eq_true]
      intro hall
      have := hall i (List.mem_range.2 hi)
      simp [this] at hp
    rw [this]; rfl

theorem scanLines_any (a : Option Addr) (n cap : Nat) (xs : Nat → Nat) (w : World) (hn : n ≤ 1048576) (hr : Row w a n fun i => .float .f32 (xs i)) (hx : ∀ i, i < n → W32 (xs i)) :
    Calls Try.prog 28 #[.slice a n cap] w (Lined w (scanOk xs n) (scanOut xs n)) := by
  cases hs : scanIs xs n with
  | true =>
    have hs2 := hs
    unfold scanIs at hs2
    rw [Bool.and_eq_true, decide_eq_true_iff] at hs2
    obtain ⟨b, off, rfl, _⟩ := hr 0 (by omega)
    exact scanLines_in b off n cap xs w hs2.1.1 hs2.1.2 (fun i hi => by
      obtain ⟨b', off', e1, e2⟩ := hr i hi
      injection e1 with e1; injection e1 with e3 e4
      subst e3; subst e4; exact e2) hx (by simpa using hs2.2)
  | false =>
    have HI := Lib.hid (isScan_any a n cap xs w hn hr hx)
    have e : (decide (2 ≤ n ∧ n ≤ 64) && !anyOf (fun i => !finB Ieee.single (xs i)) n) = false := hs
    rw [e] at HI
    have hok := not_scan hs
    have FIN : Hid (∀ w', Below w.heap.size w w' → Lined w (scanOk xs n) (scanOut xs n) (.returned (.tuple #[.slice none 0 0, .bool false])) w') := fun w' hb => by
      unfold scanOut
      rw [hok]
      exact ⟨_, rfl, World.ownsRow_nil _ _ _ _, hb⟩
    have hnot : ∀ (b : Bool) (w : World), (Op.unary .not (.bool b)).run Try.prog w = .ok (.bool (!b)) w := fun _ _ => rfl
    clear hs hok e hr hx
    go_enter Try.func28, Try.ntmps28
    go_wp2_with fail
    refine HI.out.mono ?_
    rintro e w1 ⟨rfl, hb1⟩
    go_wp2
    go_ret2
    exact FIN.out _ hb1
end Go.Proofs.Ytdcfailgakofeaa
