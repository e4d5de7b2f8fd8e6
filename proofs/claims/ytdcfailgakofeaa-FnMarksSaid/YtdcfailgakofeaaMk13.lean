/-
  The statement FnMarks: the walk of the law.
-/
import Derived.Test.YtdcfailgakofeaaMk12
import Derived.Deep.CutRange
import Derived.Deep.CutBlock
namespace Go.Proofs.Ytdcfailgakofeaa
open Go.RowKit Go.Flt

set_option maxHeartbeats 12800000 in
set_option maxRecDepth 100000 in
theorem law_marks (a1 a2 : Option Addr) (n1 n2 c1 c2 : Nat) (z1 z2 : Nat → Int) (w : World) (h1 : n1 ≤ 48) (h2 : n2 ≤ 48) (hb1 : Bytes w a1 n1 z1) (hb2 : Bytes w a2 n2 z2) :
    Calls Try.prog 4 #[.slice a1 n1 c1, .slice a2 n2 c2] w (LawPost w) := by
  obtain ⟨i0, hi, hz0, hz1, hz2⟩ := info_parts info27
  have LG := Lib.hid (long8_no a1 a2 n1 n2 c1 c2 w h1 h2)
  have AT := Lib.hid (fun (i : Nat) (m : Int) (w' : World) (hi : i ≤ 1000) (hm : 2 ≤ m) (hb : Below w.heap.size w w') => at8_any a2 n2 c2 i m z2 w' (hb2.below hb) (by omega) hi hm)
  have DR := Lib.hid (fun n (hn : n ≤ 14) => draw_qa a1 n1 c1 n z1 w hn hb1 (by omega))
  have hnot : ∀ (b : Bool) (w : World), (Op.unary .not (.bool b)).run Try.prog w = .ok (.bool (!b)) w := fun _ _ => rfl
  have rs := run_store_float
  have HBY := Lib.hid hb2
  clear hb1 hb2
  go_enter Try.func4, Try.ntmps4
  go_wp2_with fail
  refine LG.out.mono ?_
  rintro e w' ⟨rfl, hw⟩
  rw [hw]; clear hw LG w'
  go_wp2_with fail
  refine (AT.out 40 12 w (by decide) (by decide) (Below.refl _ _)).mono ?_
  rintro e w' ⟨x, rfl, hx0, hx1, hw⟩
  rw [hw]; clear hw w'
  obtain ⟨m, rfl⟩ : ∃ m : Nat, x = (m : Int) := ⟨x.toNat, by omega⟩
  obtain ⟨n, hnm⟩ : ∃ n : Nat, n = m + 3 := ⟨_, rfl⟩
  have hn14 : n ≤ 14 := by omega
  have hn3 : 3 ≤ n := by omega
  have e1 : (3 + (m : Int)) = (n : Int) := by omega
  clear hnm hx0 hx1
  go_wp2_with fail
  clear e1
  refine (DR.out n hn14).mono ?_
  rintro e w1 ⟨ks, hks, la, lc, rfl, ol, b1⟩
  obtain ⟨xs, hxs⟩ : ∃ xs : Nat → Nat, xs = fun i => qa (ks i) := ⟨_, rfl⟩
  have hlst : Lst xs n := by rw [hxs]; exact lst_qa hks
  rw [← hxs] at ol
  have LS := Lib.hid hlst
  have L1 := Lib.hid ol
  have B1 := Lib.hid b1
  obtain ⟨lg, lcc, hlg⟩ := row_form ol (by omega)
  injection hlg with hlg _ hlc
  subst hlg; subst hlc
  have hcap : Hid (n ≤ lc) := by
    rcases ol.2 with ⟨h1, _⟩ | ⟨g', cap', cur, h1, _, _, h3, _⟩
    · cases h1
    · injection h1 with _ _ h1; subst h1; exact h3
  clear ol b1 hks hxs DR hlst
  go_wp2_with fail
  refine (AT.out 41 8 _ (by decide) (by decide) B1.out).mono ?_
  rintro e w' ⟨x, rfl, hx0, hx1, hw⟩
  rw [hw]; clear hw w'
  obtain ⟨jb, rfl⟩ : ∃ m : Nat, x = (m : Int) := ⟨x.toNat, by omega⟩
  have hbt := barW_told jb (by omega)
  obtain ⟨fbar, pbar⟩ := barW_good jb (by omega)
  have ab := ar hbt 27
  have ab' : ∀ w, (binOp .quo 27 (.float .f32 (floatOfInt .f32 (jb : Int))) (.float .f32 1082130432)).run Try.prog w = .ok (.float .f32 (barW jb)) w := ab
  clear ab hbt hx0 hx1
  generalize hbar : barW jb = bar at *
  clear hbar
  have FR1 := Lib.hid (own_frow L1.out (fun i hi => LS.out.fin hi))
  have M1 := Lib.hid (marks_any (some ⟨lg, 0, none⟩) n lc xs bar w1 hn3 (by omega) FR1.out fbar pbar LS.out.peaks)
  have C1 := Lib.hid (fun w' (hb : Below w1.heap.size w1 w') => remove_any (some ⟨lg, 0, none⟩) n lc xs bar w' hn3 (by omega) (FR1.out.below hb) fbar pbar LS.out.peaks LS.out.halves)
  clear fbar pbar
  go_wp2_with fail
  refine M1.out.mono ?_
  rintro e w2 ⟨ma, mc, rfl, om, b2⟩
  obtain ⟨ms, hms⟩ : ∃ ms, ms = marksTo xs bar n n := ⟨_, rfl⟩
  rw [← hms] at om
  have hw1 := B1.out.size
  have HB2 := Lib.hid b2
  have O2 := Lib.hid (own_le om hw1)
  have L2 := Lib.hid (owns_below L1.out b2)
  have B2 := Lib.hid (B1.out.trans (b2.mono hw1))
  have HM := Lib.hid hms
  rw [← hms]
  have hml : ms.length ≤ 14 := by rw [hms]; have := marksTo_le xs bar n n; omega
  clear om b2 M1 L1 B1 hms
  go_wp2_with fail
  refine (C1.out _ HB2.out).mono ?_
  rintro e w3 ⟨ca, cc, rfl, oc, b3⟩
  have hw2 := B2.out.size
  have C3 := Lib.hid (own_le oc hw2)
  have O3 := Lib.hid (owns_below O2.out b3)
  have L3 := Lib.hid (owns_below L2.out b3)
  have B3 := Lib.hid (B2.out.trans (b3.mono hw2))
  clear oc b3 C1 O2 L2 B2 HB2 FR1
  have hne : ((n : Int) != (n : Int)) = false := by simp
  have hl0 : w3.cell? ⟨lg, 0, none⟩ = some (.float .f32 (xs 0)) := by have := seq_row (i := 0) (own_at L3.out) (show 0 < n by omega) rfl; simpa [fw] using this
  obtain ⟨tot, K, htot, qtot, k1, k2⟩ := LS.out.total (by omega) n (Nat.le_refl _)
  have HT := Lib.hid htot
  have QT := Lib.hid (And.intro qtot (And.intro k1 k2))
  clear htot qtot k1 k2
  go_upto_block 0 with fail
  go_cut [12, 13, 14, 15] from 80 to 185 (fun kk lo hh tt wx => kk = .int .i64 ms.length ∧ lo = .float .f32 (lowTo xs n) ∧ hh = .float .f32 (highTo xs n) ∧ (∃ s : Nat, tt = .float .f32 s ∧ Hid (sumW xs n = some s)) ∧ Hid (∃ q, wx = w3.drewN q))
  case first =>
    go_wp2_with fail
    go_loopw [12, 13, 14, 15, 16] (fun kk lo hh tt ii wr => ∃ (i s : Nat), i ≤ n ∧ ii = .int .i64 i ∧ kk = .int .i64 (marksTo xs bar n i).length ∧ lo = .float .f32 (lowTo xs i) ∧ hh = .float .f32 (highTo xs i) ∧ tt = .float .f32 s ∧ Hid (sumW xs i = some s) ∧ Hid (∃ q, wr = w3.drewN q)) (fun _ _ _ _ ii _ => n - (intOf ii).toNat)
    case atStart => exact ⟨0, 0, by omega, rfl, rfl, rfl, rfl, rfl, rfl, ⟨0, rfl⟩⟩
    case round =>
      obtain ⟨i, s, hin, rfl, rfl, rfl, rfl, rfl, hs, hq⟩ := hrel
      by_cases hlt : i < n
      · obtain ⟨q0, hq0⟩ := hq.out
        have cl : wr.cell? ⟨lg, i, none⟩ = some (.float .f32 (xs i)) := by rw [hq0]; have := seq_row (i := 0) (own_at L3.out) hlt rfl; simpa [fw] using this
        obtain ⟨m1, _, _⟩ := min32_good (LS.out.low_good (by omega) i hin).1 (LS.out.fin hlt)
        obtain ⟨m2, _, _⟩ := max32_good (LS.out.high_good (by omega) i hin).1 (LS.out.fin hlt)
        have rmin := run_minF m1
        have rmax := run_maxF m2
        have hlow : minW .f32 (lowTo xs i) (xs i) = lowTo xs (i + 1) := rfl
        have hhigh : maxW .f32 (highTo xs i) (xs i) = highTo xs (i + 1) := rfl
        rw [hlow] at rmin
        rw [hhigh] at rmax
        obtain ⟨s', hs'⟩ := sumW_le HT.out (i + 1) (by omega)
        have ax : floatBits .add .f32 s (xs i) = some s' := by
          have := hs'; unfold sumW at this; rw [hs.out] at this; exact this
        have a1' := ar ax 27
        have HS' := Lib.hid hs'
        have hlti : (i : Int) < (n : Int) := by omega
        obtain ⟨cg, co, rfl, cc0⟩ := own_at C3.out i hlt
        have ccl : wr.cell? ⟨cg, co + i, none⟩ = some (.float .f32 (cleanW xs bar n i)) := by rw [hq0]; exact cc0
        have hkl : (marksTo xs bar n i).length ≤ 14 := by have := marksTo_le xs bar n i; omega
        have HMR := Lib.hid (fun (k : Nat) (hk : k < ms.length) => marks_row O3.out k hk)
        obtain ⟨kn, hkn⟩ : ∃ k, k = (marksTo xs bar n i).length := ⟨_, rfl⟩
        rw [← hkn] at hkl ⊢
        have HK := Lib.hid hkn
        obtain ⟨lw, hlw⟩ : ∃ x, x = lowTo xs i := ⟨_, rfl⟩
        obtain ⟨hw, hhw⟩ : ∃ x, x = highTo xs i := ⟨_, rfl⟩
        rw [← hlw] at rmin ⊢
        rw [← hhw] at rmax ⊢
        have HQ := hq
        clear m1 m2 hlow hhigh hs' ax cc0 hq0 hkn hlw hhw hq
        go_upto_region 20 with fail
        go_cut [17] from 80 to 185 (fun is wx => is = .bool (isPk xs bar n i) ∧ Hid (∃ q, wx = wr.drewN q))
        case first =>
          by_cases hpk : isPk xs bar n i = true
          · obtain ⟨r1, r2⟩ := pk_range hpk
            have c1 : wr.cell? ⟨lg, i - 1, none⟩ = some (.float .f32 (xs (i - 1))) := by obtain ⟨q0, rfl⟩ := HQ.out; have := seq_row (i := 0) (own_at L3.out) (show i - 1 < n by omega) rfl; simpa [fw] using this
            have c2 : wr.cell? ⟨lg, i + 1, none⟩ = some (.float .f32 (xs (i + 1))) := by obtain ⟨q0, rfl⟩ := HQ.out; have := seq_row (i := 0) (own_at L3.out) r2 rfl; simpa [fw] using this
            have mm := run_maxF (LS.out.peaks.ord i r1 r2)
            have asb := ar (LS.out.peaks.sub i r1 r2) 27
            have hpb : peakB xs bar i = true := by unfold isPk at hpk; simp only [Bool.and_eq_true] at hpk; exact hpk.2
            have tp : (FloatKind.f32.format.order (diffW xs i) bar == some .gt) = true := hpb
            have hi0 : (0 : Int) < (i : Int) := by omega
            have hi0n : 0 < i := by omega
            have hin' : (i : Int) + 1 < (n : Int) := by omega
            have e5 : ((i : Int) - 1) = ((i - 1 : Nat) : Int) := by omega
            have HPK := Lib.hid hpk
            clear hpb hpk
            go_big_quiet (fail)
            go_wp2
            go_meet
            exact ⟨by rw [HPK.out], ⟨_, rfl⟩⟩
          · have hpk' : isPk xs bar n i = false := by simpa using hpk
            have HPK := Lib.hid hpk'
            by_cases hin : 0 < i ∧ i + 1 < n
            · obtain ⟨r1, r2⟩ := hin
              have c1 : wr.cell? ⟨lg, i - 1, none⟩ = some (.float .f32 (xs (i - 1))) := by obtain ⟨q0, rfl⟩ := HQ.out; have := seq_row (i := 0) (own_at L3.out) (show i - 1 < n by omega) rfl; simpa [fw] using this
              have c2 : wr.cell? ⟨lg, i + 1, none⟩ = some (.float .f32 (xs (i + 1))) := by obtain ⟨q0, rfl⟩ := HQ.out; have := seq_row (i := 0) (own_at L3.out) r2 rfl; simpa [fw] using this
              have mm := run_maxF (LS.out.peaks.ord i r1 r2)
              have asb := ar (LS.out.peaks.sub i r1 r2) 27
              have hpb : peakB xs bar i = false := by unfold isPk at hpk'; rw [decide_eq_true (show 1 ≤ i by omega), decide_eq_true r2] at hpk'; simpa using hpk'
              have tp : (FloatKind.f32.format.order (diffW xs i) bar == some .gt) = false := hpb
              have hi0 : (0 : Int) < (i : Int) := by omega
              have hin' : (i : Int) + 1 < (n : Int) := by omega
              have e5 : ((i : Int) - 1) = ((i - 1 : Nat) : Int) := by omega
              clear hpb hpk hpk'
              go_big_quiet (fail)
              go_wp2
              go_meet
              exact ⟨by rw [HPK.out], ⟨_, rfl⟩⟩
            · have hdn : (i = 0) ∨ (0 < i ∧ i + 1 = n) := by omega
              clear hpk hpk' hin
              rcases hdn with hi0 | ⟨hi0, hin1⟩
              · have g1 : decide ((0 : Int) < (i : Int)) = false := decide_eq_false (by omega)
                have g2 : decide (0 < i) = false := decide_eq_false (by omega)
                clear hi0
                go_big_quiet (fail)
                go_wp2
                go_meet
                exact ⟨by rw [HPK.out], ⟨_, rfl⟩⟩
              · have g1 : (0 : Int) < (i : Int) := by omega
                have g3 : decide ((i : Int) + 1 < (n : Int)) = false := decide_eq_false (by omega)
                have g4 : decide (i + 1 < n) = false := decide_eq_false (by omega)
                clear hin1
                go_big_quiet (fail)
                go_wp2
                go_meet
                exact ⟨by rw [HPK.out], ⟨_, rfl⟩⟩
        case rest =>
          obtain ⟨rfl, HWX⟩ := hcut
          have HQ2 : Hid (∃ q, wc = w3.drewN q) := by obtain ⟨q0, rfl⟩ := HQ.out; obtain ⟨q1, rfl⟩ := HWX.out; exact ⟨_, World.drewN_drewN _ _ _⟩
          have cl2 : wc.cell? ⟨lg, i, none⟩ = some (.float .f32 (xs i)) := by obtain ⟨q1, rfl⟩ := HWX.out; exact cl
          have ccl2 : wc.cell? ⟨cg, co + i, none⟩ = some (.float .f32 (cleanW xs bar n i)) := by obtain ⟨q1, rfl⟩ := HWX.out; exact ccl
          clear HWX cl ccl HQ
          by_cases hpk : isPk xs bar n i = true
          · obtain ⟨r1, r2⟩ := pk_range hpk
            have c1 : wc.cell? ⟨lg, i - 1, none⟩ = some (.float .f32 (xs (i - 1))) := by obtain ⟨q0, rfl⟩ := HQ2.out; have := seq_row (i := 0) (own_at L3.out) (show i - 1 < n by omega) rfl; simpa [fw] using this
            have c2 : wc.cell? ⟨lg, i + 1, none⟩ = some (.float .f32 (xs (i + 1))) := by obtain ⟨q0, rfl⟩ := HQ2.out; have := seq_row (i := 0) (own_at L3.out) r2 rfl; simpa [fw] using this
            obtain ⟨k1, k2⟩ := marks_hit hlt hpk
            rw [← HM.out, ← HK.out] at k1 k2
            obtain ⟨mg, mo, rfl, cm0⟩ := HMR.out kn k1
            have cm : wc.cell? ⟨mg, mo + kn, none⟩ = some (.int .i64 (i : Int)) := by obtain ⟨q0, rfl⟩ := HQ2.out; rw [← k2]; exact cm0
            have hcw : cleanW xs bar n i = halfW xs i := by unfold cleanW; rw [if_pos hpk]
            rw [hcw] at ccl2
            obtain ⟨hs1, hd, hg, e1, e2, e3, e4⟩ := LS.out.half_gap r1 r2
            have b1 := ar e1 27
            have b2 := ar e2 27
            have G := Lib.hid (fun w => gap8_any w e3)
            have hin' : (i : Int) + 1 < (n : Int) := by omega
            have hkl' : (kn : Int) < (ms.length : Int) := by omega
            have hkl'n : kn < ms.length := k1
            have e5 : ((i : Int) - 1) = ((i - 1 : Nat) : Int) := by omega
            have hkn1 : Hid (kn + 1 = (marksTo xs bar n (i + 1)).length) := by show _ = _; rw [marksTo_succ, hpk, HK.out]; simp
            rw [hpk]
            clear cm0 k1 k2 hcw e1 e2 e3 hpk
            go_wp2
            go_big_quiet ((go_at_call 21; first | exact quiet_more ((G.out _).mono fun _ _ h => h.quiet) | exact Calls.quiet_of ((G.out _).mono fun _ _ h => h.quiet)))
            go_wp2
            go_roundw
            case rel => exact ⟨i + 1, s', by omega, by go_num, by rw [← hkn1.out]; go_num, rfl, rfl, rfl, HS'.out, by obtain ⟨q0, rfl⟩ := HQ2.out; exact ⟨_, World.drewN_drewN _ _ _⟩⟩
            case measure => simp [intOf]; omega
          · have hpk' : isPk xs bar n i = false := by simpa using hpk
            have hcw : cleanW xs bar n i = xs i := by unfold cleanW; rw [if_neg hpk]
            rw [hcw] at ccl2
            have heq := same_eq (LS.out.fin hlt)
            have hkn1 : Hid (kn = (marksTo xs bar n (i + 1)).length) := by show _ = _; rw [marksTo_succ, hpk', HK.out]; simp
            have hmiss : Hid (∀ h : kn < ms.length, ms.getD kn 0 ≠ i) := fun h => by
              have := marks_miss hlt hpk' (by rw [← HM.out, ← HK.out]; exact h)
              rw [← HM.out, ← HK.out] at this
              exact this
            rw [hpk']
            clear hcw hpk hpk'
            by_cases hkl2 : kn < ms.length
            · obtain ⟨mg, mo, rfl, cm0⟩ := HMR.out kn hkl2
              have cm : wc.cell? ⟨mg, mo + kn, none⟩ = some (.int .i64 ((ms.getD kn 0 : Nat) : Int)) := by obtain ⟨q0, rfl⟩ := HQ2.out; exact cm0
              have hne2 := hmiss.out hkl2
              have hkl' : (kn : Int) < (ms.length : Int) := by omega
              obtain ⟨mv, hmv⟩ : ∃ v, v = ms.getD kn 0 := ⟨_, rfl⟩
              rw [← hmv] at cm hne2
              have hne3 : ((mv : Int) == (i : Int)) = false := by simp; omega
              have hne4 : decide ((mv : Int) = (i : Int)) = false := decide_eq_false (by omega)
              have hne5 : decide (mv = i) = false := decide_eq_false hne2
              clear cm0 hmiss hmv
              go_wp2
              go_big_quiet (fail)
              go_wp2
              go_roundw
              case rel => exact ⟨i + 1, s', by omega, by go_num, by rw [← hkn1.out], rfl, rfl, rfl, HS'.out, by obtain ⟨q0, rfl⟩ := HQ2.out; exact ⟨_, World.drewN_drewN _ _ _⟩⟩
              case measure => simp [intOf]; omega
            · have hkl' : decide ((kn : Int) < (ms.length : Int)) = false := decide_eq_false (by omega)
              have hkl'n : decide (kn < ms.length) = false := decide_eq_false hkl2
              go_wp2
              go_big_quiet (fail)
              go_wp2
              go_roundw
              case rel => exact ⟨i + 1, s', by omega, by go_num, by rw [← hkn1.out], rfl, rfl, rfl, HS'.out, by obtain ⟨q0, rfl⟩ := HQ2.out; exact ⟨_, World.drewN_drewN _ _ _⟩⟩
              case measure => simp [intOf]; omega
      · obtain rfl : n = i := by omega
        rw [← HM.out]
        have hni : ¬ (n : Int) < (n : Int) := by omega
        go_wp2
        go_meet
        exact ⟨rfl, rfl, rfl, ⟨s, rfl, hs⟩, hq⟩
  case rest =>
    obtain ⟨rfl, rfl, rfl, ⟨s, rfl, hs⟩, hq⟩ := hcut
    obtain rfl : s = tot := Option.some.inj (hs.out.symm.trans HT.out)
    obtain ⟨q0, hq0⟩ := hq.out
    have L4 := Lib.hid (show wc.ownsRow w.heap.size 27 1 (.slice (some ⟨lg, 0, none⟩) n lc) n ((List.range n).map (fw xs)) by rw [hq0]; exact L3.out)
    have B4 := Lib.hid (show Below w.heap.size w wc by rw [hq0]; exact below_drewN B3.out q0)
    go_step
    exact marks_rest a1 a2 ma n1 n2 _ _ n lg lc mc s K z2 xs ms w wc hn3 hn14 h2 HBY.out LS.out hcap.out hml L4.out B4.out HT.out QT.out.1 QT.out.2.1 QT.out.2.2
end Go.Proofs.Ytdcfailgakofeaa
