/-
  The reference's ScanLines.
-/
import Derived.Test.YtdcfailgakofeaaWk7
import Derived.StillTailTactics
import Derived.Laws.ComplexArith
namespace Go.Proofs.Ytdcfailgakofeaa
open Go.RowKit Go.Flt

/-- Finite numbers scaled: nothing is drawn. -/
theorem scale_told (a b c r s : Nat) (w : World) (h1 : floatBits .mul .f32 a c = some r) (h2 : floatBits .mul .f32 b c = some s) :
    Calls Try.prog 57 #[.complex .f32 a b, .float .f32 c] w fun e w' => e = .returned (.complex .f32 r s) ∧ w = w' := by
  have a1 := ar h1 27
  have a2 := ar h2 27
  go_enter Try.func57, Try.ntmps57
  go_wp2
  go_ret
  exact ⟨rfl, rfl⟩

theorem mul_fin {a c : Nat} (ha : fin Ieee.single a) (hc : fin Ieee.single c) : ∃ r, floatBits .mul .f32 a c = some r := by
  obtain ⟨s, m, i, e1, _⟩ := fin_read ha
  obtain ⟨t, n, j, e2, _⟩ := fin_read hc
  have : Ieee.single.mul a c = some (Ieee.single.write (.number (s ^^ t) (m * n) (i + j))) := by
    unfold Ieee.Format.mul
    rw [e1, e2]
    rfl
  exact ⟨_, this⟩

/-- A sum of complex numbers up to not-a-numbers. -/
theorem cadd_like {p1 q1 p2 q2 : Option Nat} {a b c d : Nat} (h1 : LikeC p1 q1 a b) (h2 : LikeC p2 q2 c d) (t : TypeId) :
    ∀ w, ∃ x y n, (binOp .add t (.complex .f32 a b) (.complex .f32 c d)).run Try.prog w = .ok (.complex .f32 x y) (w.drewN n) ∧ LikeC (obin .add .f32 p1 p2) (obin .add .f32 q1 q2) x y := by
  intro w
  have part : ∀ {p q : Option Nat} {v u : Nat}, Like .f32 p v → Like .f32 q u → ∀ w : World, ∃ r n, (Op.Complex.arith .add .f32 v u).run Try.prog w = .ok r (w.drewN n) ∧ Like .f32 (obin .add .f32 p q) r ∧ W32 r := by
    intro p q v u hv hu w
    rcases like_op (P := Try.prog) (op := .add) (Or.inl rfl) hv hu 27 with ⟨r, hr, lr, _⟩ | ⟨hn, hrun⟩
    · exact ⟨r, 0, run_carith w hr, lr, bits_w32 hr⟩
    · refine ⟨drawn .f32 v u w, 1, ?_, like_none hn (drawn_nan _ _ _ _), drawn_w32 _ _ _⟩
      have h3 : (Op.floatArith .add .f32 v u).run Try.prog w = .ok (.float .f32 (drawn .f32 v u w)) w.drew := by
        have := hrun w
        simpa [binOp] using this
      simp [Op.Complex.arith, h3]; rfl
  obtain ⟨x, n, hx, lx, wx⟩ := part h1.lre h2.lre w
  obtain ⟨y, m, hy, ly, wy⟩ := part h1.lim h2.lim (w.drewN n)
  refine ⟨x, y, n + m, ?_, ⟨lx, ly, wx, wy⟩⟩
  simp [binOp, Op.complexOp, hx, hy]

/-- The reference's lines, in memory of its own. -/
def LinesGiven (w : World) (xs : Nat → Nat) (n : Nat) (e : Ending) (w' : World) : Prop :=
  ∃ v acc, e = .returned v ∧ acc.length = n / 2 + 1 ∧ LinesLike xs n acc ∧ w'.ownsRow w.heap.size 30 1 v acc.length (acc.map cx) ∧ Below w.heap.size w w'

set_option maxHeartbeats 3200000 in
set_option maxRecDepth 100000 in
theorem lines_spec (b off n cap : Nat) (xs : Nat → Nat) (w : World) (h2 : 2 ≤ n) (h64 : n ≤ 64) (hr : ∀ i, i < n → w.cell? ⟨b, off + i, none⟩ = some (.float .f32 (xs i))) (hfin : ∀ i, i < n → fin Ieee.single (xs i)) :
    Calls Try.prog 71 #[.slice (some ⟨b, off, none⟩) n cap] w (LinesGiven w xs n) := by
  obtain ⟨i0, hi, hz0, hz1, hz2⟩ := info_parts info30
  have hb : b < w.heap.size := World.block_lt_of_cell? w _ (hr 0 (by omega))
  have HR := Lib.hid hr
  have HF := Lib.hid hfin
  clear hr hfin
  have hneg : ∀ (x : Nat) (w : World), (Op.unary .neg (.float .f64 x)).run Try.prog w = .ok (.float .f64 (opp64 x)) w := fun _ _ => rfl
  go_enter Try.func71, Try.ntmps71
  go_wp2
  go_loopw [4, 5] (fun v kk wr => ∃ (k : Nat) (acc : List (Nat × Nat)), k ≤ n / 2 + 1 ∧ kk = .int .i64 k ∧ Hid (acc.length = k) ∧ Hid (LinesLike xs n acc) ∧ wr.ownsRow w.heap.size 30 1 v acc.length (acc.map cx) ∧ Below w.heap.size w wr) (fun _ kk _ => n / 2 + 1 - (intOf kk).toNat)
  case atStart =>
    refine ⟨0, [], by omega, rfl, rfl, LinesLike.nil xs n, ?_, ?_⟩
    · exact World.ownsRow_made w #[] 0 (Nat.le_refl _) (by decide) rfl
    · exact (Below.refl _ _).alloc (Nat.le_refl _) _
  case round =>
    obtain ⟨k, acc, hk, rfl, hlen, hlike, hown, hbel⟩ := hrel
    by_cases hlt : k < n / 2 + 1
    · obtain ⟨wo, rfl⟩ : ∃ wo : World, wo = wr := ⟨_, rfl⟩
      have hdk : decide ((k : Int) ≤ (n : Int) / 2) = true := by rw [decide_eq_true_iff]; omega
      go_wp2
      go_loopw [6, 7] (fun al jj wi => ∃ (i x y m : Nat), i ≤ n ∧ jj = .int .i64 i ∧ al = .complex .f32 x y ∧ Hid (LikeC (lineAcc xs n k i).1 (lineAcc xs n k i).2 x y) ∧ wi = wo.drewN m) (fun _ jj _ => n - (intOf jj).toNat)
      case atStart => exact ⟨0, 0, 0, 0, by omega, rfl, rfl, ⟨rfl, rfl, by unfold W32; decide, by unfold W32; decide⟩, rfl⟩
      case round =>
        obtain ⟨i, x, y, m, hin, rfl, rfl, hlc, rfl⟩ := hrel
        by_cases hii : i < n
        · have hc := (hbel.cell (p := ⟨b, off + i, none⟩) hb).trans (HR.out i hii)
          have ht := turns_good (show k ≤ 64 by omega) (show i ≤ 64 by omega) h2 h64
          have hq := (quo_good (show k ≤ 64 by omega) (show i ≤ 64 by omega) h2 h64).1
          have a1 : ∀ w, (binOp .quo 33 (.float .f64 (floatOfInt .f64 ((k : Int) * (i : Int)))) (.float .f64 (floatOfInt .f64 (n : Int)))).run Try.prog w = .ok (.float .f64 (quoOf k i n)) w := ar hq 33
          have hw : wrap64 ((k : Int) * (i : Int)) = (k : Int) * (i : Int) := by
            have : k * i ≤ 64 * 64 := Nat.mul_le_mul (by omega) (by omega)
            have e1 : (k : Int) * (i : Int) = ((k * i : Nat) : Int) := by simp
            rw [e1]
            unfold wrap64; omega
          have HP := Lib.hid (fun w => (phasor_spec _ _ _ w ht (ph_some ht)).mono fun e w' h => (show e = _ ∧ w' = w from ⟨h.1, h.2.symm⟩))
          obtain ⟨r, s, hr1, hs1⟩ : ∃ r s, floatBits .mul .f32 (phOf (turnsOf k i n)).1 (xs i) = some r ∧ floatBits .mul .f32 (phOf (turnsOf k i n)).2 (xs i) = some s := by
            obtain ⟨pa, pb, hp, fa, fb, _, _⟩ := phasor_good ht
            have e1 : phOf (turnsOf k i n) = (pa, pb) := by unfold phOf; rw [hp]; rfl
            rw [e1]
            obtain ⟨r, hr⟩ := mul_fin fa (HF.out i hii)
            obtain ⟨s, hs⟩ := mul_fin fb (HF.out i hii)
            exact ⟨r, s, hr, hs⟩
          have HS := Lib.hid (fun w => (scale_told _ _ _ _ _ w hr1 hs1).mono fun e w' h => (show e = _ ∧ w' = w from ⟨h.1, h.2.symm⟩))
          have LS : LikeC (some r) (some s) r s := ⟨rfl, rfl, bits_w32 hr1, bits_w32 hs1⟩
          have HADD := Lib.hid (cadd_like hlc.out LS 30)
          have HACC := Lib.hid (show (obin .add .f32 (lineAcc xs n k i).1 (some r), obin .add .f32 (lineAcc xs n k i).2 (some s)) = lineAcc xs n k (i + 1) by
            show _ = (obin .add .f32 (lineAcc xs n k i).1 (floatBits .mul .f32 (phOf (turnsOf k i n)).1 (xs i)), obin .add .f32 (lineAcc xs n k i).2 (floatBits .mul .f32 (phOf (turnsOf k i n)).2 (xs i)))
            rw [hr1, hs1])
          clear ht hq hlc hr1 hs1 LS
          go_wp2_with fail
          refine wp_region_still_tail 9 (by kernel_rfl) (by kernel_rfl) ?_
          change wpStill _ _ (wo.drewN (m + 1)) (fun a' => wpList _ _ _ _ a' (wo.drewN (m + 1))) _ _
          simp only [List.take_succ_cons, List.take_zero, List.drop_succ_cons, List.drop_zero]
          repeat still_step
          still_call (HP.out _)
          repeat still_step
          still_call (HS.out _)
          refine wpStill_nil ?_
          change wpList _ _ _ _ _ (wo.drewN (m + 1))
          obtain ⟨x2, y2, m2, hrun, hl2⟩ := HADD.out (wo.drewN (m + 1))
          rw [World.drewN_drewN] at hrun
          have HL2 := Lib.hid hl2
          clear hl2
          go_wp2
          go_roundw
          case rel => exact ⟨i + 1, x2, y2, _, by omega, by go_num, rfl, (by
            have := HL2.out
            have e := HACC.out
            rw [← e]; exact this), rfl⟩
          case measure => simp [intOf]; omega
        · have LC := Lib.hid hlc.out
          rw [show i = n by omega] at LC
          have hacc := hlen.out
          have hown2 : (wo.drewN m).ownsRow w.heap.size 30 1 u4 acc.length (acc.map cx) := hown
          have hbel2 : Below w.heap.size w (wo.drewN m) := below_drewN hbel m
          have hacl : acc.length ≤ 64 := by omega
          have HL := Lib.hid hacc
          clear hown hbel hlc hlen hacc
          go_wp2_with (at_builtin; refine wpList_append_own _ rfl _ _ 25 rfl w.heap.size 30 i0 (.complex .f32 0 0) 1 8 Try.underlying25 hi hz0 hz1 hz2 rfl (by decide) _ _ _ rfl (hown2.alloc _) ⟨wo.heap.size, 0, none⟩ 1 1 [.complex .f32 x y] rfl rfl ?c1 ?c2 ?c3 ?c4 ?c5 ?_)
          case c1 => exact cell_one_new _ _ _
          case c2 => simp [Value.oneCell']
          case c3 => unfold maxLen; omega
          case c4 => omega
          case c5 => have := hbel2.size; simp at this ⊢; omega
          intro v' w3 hown' hgrow _
          have hb3 : Below w.heap.size w w3 := (hbel2.alloc hbel2.size _).grown hgrow (by have := hbel2.size; simp at this ⊢; omega) (fun j hj => (hown2.lt j hj).1)
          clear hgrow hown2 hbel2
          go_wp2
          go_roundw
          case rel => exact ⟨k + 1, acc ++ [(x, y)], by omega, by go_num, by have := HL.out; unfold Hid; simp; omega, (by have h0 := hlike.out; rw [← HL.out] at LC; exact h0.snoc LC.out), by simpa [cx] using hown', hb3⟩
          case measure => simp [intOf]; omega
    · have hkn : acc.length = n / 2 + 1 := by have := hlen.out; omega
      have HK := Lib.hid hkn
      have HO := Lib.hid hown
      clear hkn hlen hown
      go_wp2
      go_ret
      exact ⟨_, acc, rfl, HK.out, hlike.out, HO.out, hbel⟩

theorem spec_scan_any (a : Option Addr) (n cap : Nat) (xs : Nat → Nat) (w : World) (hn : n ≤ 1048576) (hr : Row w a n fun i => .float .f32 (xs i)) (hx : ∀ i, i < n → W32 (xs i)) :
    Calls Try.prog 26 #[.slice a n cap] w (Lined w (scanOk xs n) (scanOut xs n)) := by
  have HI := Lib.hid (bins_spec a n cap xs w hn hr hx)
  have hnot : ∀ (b : Bool) (w : World), (Op.unary .not (.bool b)).run Try.prog w = .ok (.bool (!b)) w := fun _ _ => rfl
  cases hs : scanIs xs n with
  | true =>
    have hs2 := hs
    unfold scanIs at hs2
    rw [Bool.and_eq_true, decide_eq_true_iff] at hs2
    have h2 := hs2.1.1
    have h64 := hs2.1.2
    have hfin : ∀ i, i < n → fin Ieee.single (xs i) := by
      intro i hi
      have := (anyOf_false _ _).1 (by simpa using hs2.2) i hi
      exact finB_iff.1 (by simpa using this)
    obtain ⟨b, off, rfl, hc0⟩ := hr 0 (by omega)
    have hb : b < w.heap.size := World.block_lt_of_cell? w _ hc0
    have hcell : ∀ i, i < n → w.cell? ⟨b, off + i, none⟩ = some (.float .f32 (xs i)) := fun i hi => by
      obtain ⟨b', off', e1, e2⟩ := hr i hi
      injection e1 with e1; injection e1 with e3 e4
      subst e3; subst e4; exact e2
    have HL := Lib.hid (fun (w1 : World) (hb1 : Below w.heap.size w w1) => lines_spec b off n cap xs w1 h2 h64 (fun i hi => (hb1.cell (p := ⟨b, off + i, none⟩) hb).trans (hcell i hi)) hfin)
    have hok : scanOk xs n = scanGood xs n := by
      unfold scanOk
      rw [decide_eq_true ⟨h2, h64⟩]
      have : (List.range n).all (fun i => finB Ieee.single (xs i)) = true := by
        rw [List.all_eq_true]
        intro i hi
        exact finB_iff.2 (hfin i (List.mem_range.1 hi))
      rw [this]; rfl
    have HO := Lib.hid hok
    rw [hs] at HI
    clear hs hs2 hr hx hcell hc0 hfin hok
    go_enter Try.func26, Try.ntmps26
    go_wp2_with fail
    refine HI.out.mono ?_
    rintro e w1 ⟨rfl, hb1⟩
    go_wp2_with fail
    refine (HL.out w1 hb1).mono ?_
    rintro e w2 ⟨v, acc, rfl, hlen, hlike, hown, hb2⟩
    have hl64 : acc.length ≤ 64 := by omega
    have hv : ∃ g cap, v = .slice (some ⟨g, 0, none⟩) acc.length cap := by
      rcases hown.2 with ⟨_, h0⟩ | ⟨g, cap, cur, h0, _⟩
      · omega
      · exact ⟨g, cap, h0⟩
    obtain ⟨g, gc, rfl⟩ := hv
    have hrow : Row w2 (some ⟨g, 0, none⟩) acc.length fun i => .complex .f32 (acc.getD i (0, 0)).1 (acc.getD i (0, 0)).2 := by
      intro i hi
      refine ⟨g, 0, rfl, ?_⟩
      rw [Nat.zero_add, hown.cellAt i (by simpa using hi)]
      simp [hi, cx]
    have hall := lines_all hlen hlike
    have HC := Lib.hid (give_spec (some ⟨g, 0, none⟩) acc.length gc _ _ w2 (by omega) hrow (fun i hi => by
      have := hlike i hi
      have e : acc.getD i (0, 0) = acc[i] := by simp [hi]
      rw [e]; exact ⟨this.wre, this.wim⟩))
    rw [hall] at HC
    have hb3 := hb1.trans (hb2.mono hb1.size)
    have hown2 : w2.ownsRow w.heap.size 30 1 (.slice (some ⟨g, 0, none⟩) acc.length gc) acc.length (acc.map cx) := by
      refine ⟨hown.1, ?_⟩
      rcases hown.2 with h | ⟨g', c', cur, h1, h2, h3⟩
      · exact Or.inl h
      · exact Or.inr ⟨g', c', cur, h1, Nat.le_trans hb1.size h2, h3⟩
    have HA := Lib.hid (show scanGood xs n = true → acc = scanList xs n from lines_eq hlen hlike)
    have HW := Lib.hid hown2
    clear hrow hall hown hown2 hlen hlike hb1 hb2 HL HI
    cases hg : scanGood xs n with
    | true =>
      rw [hg] at HC
      simp only [if_true] at HC
      go_wp2_with fail
      refine HC.out.mono ?_
      rintro e w3 ⟨rfl, hb4⟩
      have hb5 := hb3.trans (hb4.mono hb3.size)
      go_wp2
      go_ret2
      refine ⟨_, by rw [HO.out, hg]; rfl, ?_, hb5⟩
      unfold scanOut
      rw [HO.out, hg, if_pos rfl, ← HA.out hg]
      exact owns_below HW.out hb4
    | false =>
      rw [hg] at HC
      simp only [Bool.false_eq_true, if_false] at HC
      go_wp2_with fail
      refine HC.out.mono ?_
      rintro e w3 ⟨rfl, hb4⟩
      have hb5 := hb3.trans (hb4.mono hb3.size)
      go_wp2
      go_ret2
      refine ⟨_, by rw [HO.out, hg]; rfl, ?_, hb5⟩
      unfold scanOut
      rw [HO.out, hg, if_neg (by simp)]
      exact World.ownsRow_nil _ _ _ _
  | false =>
    rw [hs] at HI
    have hok := not_scan hs
    have FIN : Hid (∀ w', Below w.heap.size w w' → Lined w (scanOk xs n) (scanOut xs n) (.returned (.tuple #[.slice none 0 0, .bool false])) w') := fun w' hb => by
      unfold scanOut
      rw [hok]
      exact ⟨_, rfl, World.ownsRow_nil _ _ _ _, hb⟩
    clear hs hok hr hx
    go_enter Try.func26, Try.ntmps26
    go_wp2_with fail
    refine HI.out.mono ?_
    rintro e w1 ⟨rfl, hb1⟩
    go_wp2
    go_ret2
    exact FIN.out _ hb1
end Go.Proofs.Ytdcfailgakofeaa
