/-
  The statement FnPhased: the walk of the law, whole.
-/
import Derived.Test.YtdcfailgakofeaaWp6
namespace Go.Proofs.Ytdcfailgakofeaa
open Go.RowKit Go.Flt

theorem long10_no (a1 a2 : Option Addr) (n1 n2 c1 c2 : Nat) (w : World) (h1 : n1 ≤ 1048576) (h2 : n2 ≤ 1048576) :
    Calls Try.prog 8 #[.slice a1 n1 c1, .slice a2 n2 c2] w (Still w (.bool false)) := by
  have t1 : ¬ (1048576 : Int) < (n1 : Int) := by omega
  have t2 : ¬ (1048576 : Int) < (n2 : Int) := by omega
  go_enter Try.func8, Try.ntmps8
  go_wp2
  go_ret
  exact ⟨rfl, rfl⟩

theorem long10_yes (a1 a2 : Option Addr) (n1 n2 c1 c2 : Nat) (w : World) (h : 1048576 < n1 ∨ 1048576 < n2) :
    Calls Try.prog 8 #[.slice a1 n1 c1, .slice a2 n2 c2] w (Still w (.bool true)) := by
  by_cases h1 : 1048576 < n1
  · have t1 : (1048576 : Int) < (n1 : Int) := by omega
    go_enter Try.func8, Try.ntmps8
    go_wp2
    go_ret
    exact ⟨rfl, rfl⟩
  · have t1 : ¬ (1048576 : Int) < (n1 : Int) := by omega
    have t2 : (1048576 : Int) < (n2 : Int) := by omega
    go_enter Try.func8, Try.ntmps8
    go_wp2
    go_ret
    exact ⟨rfl, rfl⟩

/-- What the loop knows of each phase, with the operations that it does. -/
structure Seen (x y : Nat) (t b s : Nat × Nat) (d1x d1y l1 L1 d2x d2y l2 L2 l3 L3 l4 L4 g : Nat) : Prop where
  sb : floatBits .sub .f32 b.1 x = some d1x ∧ floatBits .sub .f32 b.2 y = some d1y
  ss : floatBits .sub .f32 s.1 x = some d2x ∧ floatBits .sub .f32 s.2 y = some d2y
  lb : longC d1x d1y = some l1 ∧ longC d2x d2y = some l2 ∧ longC t.1 t.2 = some l3 ∧ longC x y = some l4
  wb : floatToFloatBits .f32 l1 .f64 = some L1 ∧ floatToFloatBits .f32 l2 .f64 = some L2 ∧ floatToFloatBits .f32 l3 .f64 = some L3 ∧ floatToFloatBits .f32 l4 .f64 = some L4
  gp : gapOf L3 L4 = some g
  cb : (FloatKind.f64.format.order L1 c001 == some .gt) = false
  cs : (FloatKind.f64.format.order L2 c001 == some .gt) = false
  cg : (FloatKind.f64.format.order g c001 == some .gt) = false

theorem below_c001 {L : Nat} (h : fin Ieee.double L) (hv : fval Ieee.double L ≤ 1 / 5000) : (FloatKind.f64.format.order L c001 == some .gt) = false := by
  have h1 := gtr64 h c001_val.1
  have h2 := c001_val.2
  rw [decide_eq_false (by grind)] at h1
  exact h1

theorem seen_of {x y j i : Nat} {t b s : Nat × Nat} (h : Phase x y j i t b s) : ∃ d1x d1y l1 L1 d2x d2y l2 L2 l3 L3 l4 L4 g, Seen x y t b s d1x d1y l1 L1 d2x d2y l2 L2 l3 L3 l4 L4 g := by
  obtain ⟨d1x, d1y, l1, L1, a1, a2, a3, a4, a5, a6, a7⟩ := h.near
  obtain ⟨d2x, d2y, l2, L2, b1, b2, b3, b4, b5, b6, b7⟩ := h.kept
  obtain ⟨l3, l4, L3, L4, g, c1, c2, c3, c4, c5, c6, c7⟩ := h.long
  exact ⟨d1x, d1y, l1, L1, d2x, d2y, l2, L2, l3, L3, l4, L4, g, ⟨a1, a2⟩, ⟨b1, b2⟩, ⟨a3, b3, c1, c2⟩, ⟨a4, b4, c3, c4⟩, c5, below_c001 a5 (by grind), below_c001 b5 (by grind), below_c001 c6 c7⟩

set_option maxHeartbeats 6400000 in
set_option maxRecDepth 100000 in
theorem law_phased (a1 a2 : Option Addr) (n1 n2 c1 c2 : Nat) (z1 z2 : Nat → Int) (w : World) (h1 : n1 ≤ 1048576) (h2 : n2 ≤ 1048576) (hb1 : Bytes w a1 n1 z1) (hb2 : Bytes w a2 n2 z2) :
    Calls Try.prog 3 #[.slice a1 n1 c1, .slice a2 n2 c2] w fun e w' => e = .returned (.bool true) ∧ Below w.heap.size w w' := by
  have LG := Lib.hid (long10_no a1 a2 n1 n2 c1 c2 w h1 h2)
  have A0 := Lib.hid (at_any a2 n2 c2 0 8 z2 w hb2 h2 (by decide) (by decide))
  have A1 := Lib.hid (fun w' (hb : Below w.heap.size w w') => at_any a2 n2 c2 1 17 z2 w' (hb2.below hb) h2 (by decide) (by decide))
  have PH := Lib.hid (fun n (hn : n ≤ 8) => phases_any a1 n1 c1 n z1 w hn hb1 h1)
  have hnot : ∀ (b : Bool) (w : World), (Op.unary .not (.bool b)).run Try.prog w = .ok (.bool (!b)) w := fun _ _ => rfl
  have hneg : ∀ (x : Nat) (w : World), (Op.unary .neg (.float .f32 x)).run Try.prog w = .ok (.float .f32 (opp32 x)) w := fun _ _ => rfl
  clear hb1 hb2
  go_enter Try.func3, Try.ntmps3
  go_wp2_with fail
  refine LG.out.mono ?_
  rintro e w' ⟨rfl, hw⟩
  rw [hw]; clear hw
  go_wp2_with fail
  refine A0.out.mono ?_
  rintro e w'' ⟨x, rfl, hx0, hx1, hw⟩
  rw [hw]; clear hw
  obtain ⟨m, rfl⟩ : ∃ m : Nat, x = (m : Int) := ⟨x.toNat, by omega⟩
  obtain ⟨n, hnm⟩ : ∃ n : Nat, n = m + 1 := ⟨_, rfl⟩
  have hn8 : n ≤ 8 := by omega
  have hn1 : 1 ≤ n := by omega
  have e1 : (1 + (m : Int)) = (n : Int) := by omega
  clear hnm LG A0
  go_wp2_with fail
  clear e1
  refine (PH.out n hn8).mono ?_
  rintro e w1 ⟨ks, pa, pc, hkl, hks, rfl, hown, hbel⟩
  obtain ⟨kf, hkf⟩ : ∃ kf : Nat → Nat × Nat, kf = fun i => ks.getD i (0, 0) := ⟨_, rfl⟩
  have hk9 : ∀ i, i < n → (kf i).1 < 9 ∧ (kf i).2 < 9 := by
    intro i hi
    rw [hkf]
    have e : ks.getD i (0, 0) = ks[i] := by simp [hkl, hi]
    show (ks.getD i (0, 0)).1 < 9 ∧ (ks.getD i (0, 0)).2 < 9
    rw [e]
    exact hks _ (List.getElem_mem _)
  have hrowe : ks.map qcx = (List.range n).map (fun i => .complex .f32 (qw (kf i).1) (qw (kf i).2)) := by
    apply List.ext_getElem
    · simp [hkl]
    · intro i h1 h2
      simp at h1
      simp [hkf, qcx, h1]
  rw [hrowe] at hown
  have hall : ∀ (j i : Nat), j < 17 → i < n → ∃ t b s, Phase (qw (kf i).1) (qw (kf i).2) j i t b s := fun j i hj hi => phase_good (hk9 i hi).1 (hk9 i hi).2 hj (by omega)
  have O1 := Lib.hid hown
  have B1 := Lib.hid hbel
  have HK := Lib.hid hk9
  clear hown hbel hks hrowe hkl hkf PH hk9
  go_wp2_with fail
  refine (A1.out _ B1.out).mono ?_
  rintro e w'' ⟨y, rfl, hy0, hy1, hw⟩
  rw [hw]; clear hw
  obtain ⟨j, rfl⟩ : ∃ j : Nat, y = (j : Int) := ⟨y.toNat, by omega⟩
  have hj : j < 17 := by omega
  have htold := turn32_told j hj
  have q1 : ∀ w, (binOp .quo 27 (.float .f32 (floatOfInt .f32 ((j : Int) - 8))) (.float .f32 1098907648)).run Try.prog w = .ok (.float .f32 (turn32 j)) w := ar htold 27
  obtain ⟨tf, htf⟩ := Classical.axiomOfChoice (r := fun (i : Nat) (x : (Nat × Nat) × (Nat × Nat) × (Nat × Nat)) => i < n → Phase (qw (kf i).1) (qw (kf i).2) j i x.1 x.2.1 x.2.2) (fun i => by
    by_cases hi : i < n
    · obtain ⟨t, b, s, h⟩ := hall j i hj hi
      exact ⟨(t, b, s), fun _ => h⟩
    · exact ⟨((0, 0), (0, 0), (0, 0)), fun h => absurd h hi⟩)
  have HT := Lib.hid htf
  clear htold A1 hall htf
  go_wp2_with fail
  refine ((turn_any pa n pc _ _ (turn32 j) (fun i => (tf i).1) w1 hn8 (own_at O1.out) (fun i hi => ⟨qw_fin (HK.out i hi).1, qw_fin (HK.out i hi).2⟩) (turn_p hj) (fun i hi => by
    obtain ⟨p, h1, h2⟩ := (HT.out i hi).turn
    exact ⟨p, h1, h2, (HT.out i hi).ft.1, (HT.out i hi).ft.2⟩)).mono fun _ _ h => turned_at h).mono ?_
  rintro e w2 ⟨ta, tc, rfl, ot, bt⟩
  have T2 := Lib.hid ot
  have O2 := Lib.hid (owns_below O1.out bt)
  have B2 := Lib.hid (B1.out.trans (bt.mono B1.out.size))
  clear ot bt O1 B1
  go_wp2_with fail
  refine ((turn_any ta n tc _ _ (opp32 (turn32 j)) (fun i => (tf i).2.1) w2 hn8 (own_at T2.out) (fun i hi => ⟨(HT.out i hi).ft.1, (HT.out i hi).ft.2⟩) (turn_n hj) (fun i hi => by
    obtain ⟨p, h1, h2⟩ := (HT.out i hi).back
    exact ⟨p, h1, h2, (HT.out i hi).fb.1, (HT.out i hi).fb.2⟩)).mono fun _ _ h => turned_at h).mono ?_
  rintro e w3 ⟨ba, bc, rfl, ob, bb⟩
  have K3 := Lib.hid ob
  have T3 := Lib.hid (owns_below T2.out bb)
  have O3 := Lib.hid (owns_below O2.out bb)
  have B3 := Lib.hid (B2.out.trans (bb.mono B2.out.size))
  clear ob bb O2 B2 T2
  go_wp2_with fail
  refine ((turn_any pa n pc _ _ 0 (fun i => (tf i).2.2) w3 hn8 (own_at O3.out) (fun i hi => ⟨qw_fin (HK.out i hi).1, qw_fin (HK.out i hi).2⟩) turn_0 (fun i hi => by
    obtain ⟨p, h1, h2⟩ := (HT.out i hi).still
    exact ⟨p, h1, h2, (HT.out i hi).fs.1, (HT.out i hi).fs.2⟩)).mono fun _ _ h => turned_at h).mono ?_
  rintro e w4 ⟨sa, sc, rfl, os, bs⟩
  have S4 := Lib.hid os
  have K4 := Lib.hid (owns_below K3.out bs)
  have T4 := Lib.hid (owns_below T3.out bs)
  have O4 := Lib.hid (owns_below O3.out bs)
  have B4 := Lib.hid (B3.out.trans (bs.mono B3.out.size))
  clear os bs O3 B3 T3 K3
  obtain ⟨sr, KR, hsr, qsr, hKR⟩ := sum_good (ks := fun i => (kf i).1) (fun i hi => (HK.out i hi).1) n (Nat.le_refl _) hn8
  obtain ⟨si, KI, hsi, qsi, hKI⟩ := sum_good (ks := fun i => (kf i).2) (fun i hi => (HK.out i hi).2) n (Nat.le_refl _) hn8
  obtain ⟨mr, vr, hmr, fmr, hvr, fvr, near1⟩ := mean_part qsr (by omega) hn1 hn8
  obtain ⟨mi, vi, hmi, fmi, hvi, fvi, near2⟩ := mean_part qsi (by omega) hn1 hn8
  obtain ⟨dx, dy, l, L, hdx, hdy, hl, hL, fL, L0, L1⟩ := shortGap fvr fvi qsr.fin qsi.fin near1 near2
  have HSR := Lib.hid hsr
  have HSI := Lib.hid hsi
  have MEAN := Lib.hid (mean_any pa n pc _ _ sr si mr mi w4 hn1 (by omega) (own_at O4.out) (fun i hi => ⟨qw_fin (HK.out i hi).1, qw_fin (HK.out i hi).2⟩) hsr hsi hmr hmi fmr fmi)
  have SC := Lib.hid (fun w => scaleSpec_told w hvr hvi)
  have SUB := csub_told hdx hdy
  have LONG := Lib.hid (fun w => long_any w hl)
  have WID := cv (src := 27) (dst := 33) u27 Try.underlying33 hL
  have LT : (FloatKind.f64.format.order L c001 == some .lt) = true := by
    have h1 := lss64 fL c001_val.1
    have h2 := c001_val.2
    rw [decide_eq_true (by grind)] at h1
    exact h1
  clear hsr hsi qsr qsi hKR hKI hmr hmi fmr fmi hvr hvi fvr fvi near1 near2 hdx hdy hl hL fL L0 L1
  go_wp2_with fail
  refine MEAN.out.mono ?_
  rintro e w5 ⟨rfl, bm⟩
  have S5 := Lib.hid (owns_below S4.out bm)
  have K5 := Lib.hid (owns_below K4.out bm)
  have T5 := Lib.hid (owns_below T4.out bm)
  have O5 := Lib.hid (owns_below O4.out bm)
  have B5 := Lib.hid (B4.out.trans (bm.mono B4.out.size))
  clear bm S4 K4 T4 O4 B4 MEAN
  have hne : ((n : Int) != (n : Int)) = false := by simp
  go_wp2
  go_loopw [16, 89] (fun al kk wr => ∃ (k x y : Nat), k ≤ n ∧ kk = .int .i64 k ∧ al = .complex .f32 x y ∧ Hid (sumW (fun i => qw (kf i).1) k = some x ∧ sumW (fun i => qw (kf i).2) k = some y) ∧ Hid (∃ q, wr = w5.drewN q)) (fun _ kk _ => n - (intOf kk).toNat)
  case atStart => exact ⟨0, 0, 0, by omega, rfl, rfl, ⟨rfl, rfl⟩, ⟨0, rfl⟩⟩
  case round =>
    obtain ⟨k, x, y, hk, rfl, rfl, hs, hq⟩ := hrel
    by_cases hlt : k < n
    · obtain ⟨pb, po, rfl, hp0⟩ := own_at O5.out k hlt
      obtain ⟨tb, to, rfl, ht0⟩ := own_at T5.out k hlt
      obtain ⟨bb, bo, rfl, hb0⟩ := own_at K5.out k hlt
      obtain ⟨sb, so, rfl, hs0⟩ := own_at S5.out k hlt
      obtain ⟨x', hx'⟩ := sumW_le HSR.out (k + 1) (by omega)
      obtain ⟨y', hy'⟩ := sumW_le HSI.out (k + 1) (by omega)
      have ax : floatBits .add .f32 x (qw (kf k).1) = some x' := by
        have := hx'; unfold sumW at this; rw [hs.out.1] at this; exact this
      have ay : floatBits .add .f32 y (qw (kf k).2) = some y' := by
        have := hy'; unfold sumW at this; rw [hs.out.2] at this; exact this
      have HX := Lib.hid hx'
      have HY := Lib.hid hy'
      obtain ⟨d1x, d1y, l1, L1, d2x, d2y, l2, L2, l3, L3, l4, L4, g, hseen⟩ := seen_of (HT.out k hlt)
      have cp : wr.cell? ⟨pb, po + k, none⟩ = some (.complex .f32 (qw (kf k).1) (qw (kf k).2)) := by obtain ⟨q, rfl⟩ := hq.out; exact hp0
      have ct : wr.cell? ⟨tb, to + k, none⟩ = some (.complex .f32 (tf k).1.1 (tf k).1.2) := by obtain ⟨q, rfl⟩ := hq.out; exact ht0
      have cb : wr.cell? ⟨bb, bo + k, none⟩ = some (.complex .f32 (tf k).2.1.1 (tf k).2.1.2) := by obtain ⟨q, rfl⟩ := hq.out; exact hb0
      have cs : wr.cell? ⟨sb, so + k, none⟩ = some (.complex .f32 (tf k).2.2.1 (tf k).2.2.2) := by obtain ⟨q, rfl⟩ := hq.out; exact hs0
      generalize qw (kf k).1 = X at *
      generalize qw (kf k).2 = Y at *
      obtain ⟨tx, htx⟩ : ∃ v, (tf k).1.1 = v := ⟨_, rfl⟩
      obtain ⟨ty, hty⟩ : ∃ v, (tf k).1.2 = v := ⟨_, rfl⟩
      obtain ⟨bx, hbx⟩ : ∃ v, (tf k).2.1.1 = v := ⟨_, rfl⟩
      obtain ⟨by_, hby⟩ : ∃ v, (tf k).2.1.2 = v := ⟨_, rfl⟩
      obtain ⟨sx, hsx⟩ : ∃ v, (tf k).2.2.1 = v := ⟨_, rfl⟩
      obtain ⟨sy, hsy⟩ : ∃ v, (tf k).2.2.2 = v := ⟨_, rfl⟩
      have s1 := csub_told hseen.sb.1 hseen.sb.2
      have s2 := csub_told hseen.ss.1 hseen.ss.2
      have Q1 := Lib.hid (fun w => (long_any w hseen.lb.1).mono fun _ _ h => h.quiet)
      have Q2 := Lib.hid (fun w => (long_any w hseen.lb.2.1).mono fun _ _ h => h.quiet)
      have Q3 := Lib.hid (fun w => (long_any w hseen.lb.2.2.1).mono fun _ _ h => h.quiet)
      have Q4 := Lib.hid (fun w => (long_any w hseen.lb.2.2.2).mono fun _ _ h => h.quiet)
      have W1 := cv (src := 27) (dst := 33) u27 Try.underlying33 hseen.wb.1
      have W2 := cv (src := 27) (dst := 33) u27 Try.underlying33 hseen.wb.2.1
      have W3 := cv (src := 27) (dst := 33) u27 Try.underlying33 hseen.wb.2.2.1
      have W4 := cv (src := 27) (dst := 33) u27 Try.underlying33 hseen.wb.2.2.2
      have QG := Lib.hid (fun w => (gap_any w hseen.gp).mono fun _ _ h => h.quiet)
      have r1 := hseen.cb
      have r2 := hseen.cs
      have r3 := hseen.cg
      have AD := cadd_told ax ay
      rw [htx, hty] at ct Q3
      rw [hbx, hby] at cb s1
      rw [hsx, hsy] at cs s2
      clear hp0 ht0 hb0 hs0 hx' hy' hseen ax ay htx hty hbx hby hsx hsy
      go_wp2_with fail
      go_quiet ((first | (go_at_call 13; first | exact Calls.quiet_of (Q1.out _) | exact Calls.quiet_of (Q2.out _) | exact Calls.quiet_of (Q3.out _) | exact Calls.quiet_of (Q4.out _)) | (go_at_call 14; exact Calls.quiet_of (QG.out _))))
      go_wp2
      go_roundw
      case rel => exact ⟨k + 1, x', y', by omega, by go_num, rfl, ⟨HX.out, HY.out⟩, by obtain ⟨q, rfl⟩ := hq.out; exact ⟨_, World.drewN_drewN _ _ _⟩⟩
      case measure => simp [intOf]; omega
    · obtain rfl : k = n := by omega
      obtain rfl : x = sr := Option.some.inj (hs.out.1.symm.trans HSR.out)
      obtain rfl : y = si := Option.some.inj (hs.out.2.symm.trans HSI.out)
      have hbq : Hid (Below w.heap.size w wr) := by obtain ⟨q, rfl⟩ := hq.out; exact below_drewN B5.out q
      clear hs hq HSR HSI
      go_wp2_with fail
      refine (SC.out _).mono ?_
      rintro e w6 ⟨rfl, hw⟩
      rw [hw]; clear hw
      go_wp2_with fail
      refine (LONG.out _).mono ?_
      rintro e w6 ⟨rfl, hw⟩
      rw [hw]; clear hw
      go_wp2
      go_ret
      exact ⟨rfl, hbq.out⟩

set_option maxHeartbeats 1600000 in
theorem law_phased_long (a1 a2 : Option Addr) (n1 n2 c1 c2 : Nat) (w : World) (h : 1048576 < n1 ∨ 1048576 < n2) :
    Calls Try.prog 3 #[.slice a1 n1 c1, .slice a2 n2 c2] w fun e w' => e = .returned (.bool true) ∧ Below w.heap.size w w' := by
  have LG := Lib.hid (long10_yes a1 a2 n1 n2 c1 c2 w h)
  clear h
  go_enter Try.func3, Try.ntmps3
  go_wp2_with fail
  refine LG.out.mono ?_
  rintro e w' ⟨rfl, hw⟩
  rw [hw]; clear hw
  go_wp2
  go_ret
  exact ⟨rfl, Below.refl _ _⟩
end Go.Proofs.Ytdcfailgakofeaa
