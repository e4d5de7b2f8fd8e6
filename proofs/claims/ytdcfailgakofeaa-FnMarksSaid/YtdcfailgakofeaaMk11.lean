/-
  Walk: a list is sharpened.
-/
import Derived.Test.YtdcfailgakofeaaMk10
namespace Go.Proofs.Ytdcfailgakofeaa
open Go.RowKit Go.Flt

/-- One round of sharpening, told. -/
structure Sharp (xs ks kb : Nat → Nat) (n m all allb : Nat) (now x rt y nxt : Nat → Nat) : Prop where
  hx : ∀ i, i < n → spreadO now ks n m all i = some (x i)
  fx : ∀ i, i < n → fin Ieee.single (x i)
  px : ∀ i, i < n → 0 < fval Ieee.single (x i)
  hr : ∀ i, i < n → floatBits .quo .f32 (xs i) (x i) = some (rt i)
  fr : ∀ i, i < n → fin Ieee.single (rt i)
  hy : ∀ i, i < n → spreadO rt kb n m allb i = some (y i)
  fy : ∀ i, i < n → fin Ieee.single (y i)
  hn : ∀ i, i < n → floatBits .mul .f32 (now i) (y i) = some (nxt i)
  fn : ∀ i, i < n → fin Ieee.single (nxt i)

/-- What is known of a kernel. -/
structure Kern (ks : Nat → Nat) (m all : Nat) : Prop where
  fin : ∀ i, i < m → fin Ieee.single (ks i)
  nn : ∀ i, i < m → 0 ≤ fval Ieee.single (ks i)
  sum : sumW ks m = some all
  fa : Ieee.single.signWeight = Ieee.single.signWeight → Go.Flt.fin Ieee.single all
  pa : 0 < fval Ieee.single all

theorem reverse_any (base g n c : Nat) (ks : Nat → Nat) (w : World) (hn : n = 1 ∨ n = 3) (ho : w.ownsRow base 27 1 (.slice (some ⟨g, 0, none⟩) n c) n ((List.range n).map (fw ks))) :
    Calls Try.prog 68 #[.slice (some ⟨g, 0, none⟩) n c] w (Turned3 w base g n c ks) := by
  rcases hn with rfl | rfl
  · exact reverse1_any base g c ks w ho
  · exact reverse3_any base g c ks w ho

set_option maxHeartbeats 6400000 in
set_option maxRecDepth 100000 in
theorem sharpen_any (a ka : Option Addr) (n cap m kc R : Nat) (xs ks : Nat → Nat) (all allb : Nat) (nows : Nat → Nat → Nat) (w : World) (h1 : 1 ≤ n) (hn : n ≤ 64) (hm : m = 1 ∨ m = 3) (hR : R ≤ 32)
    (hr : FRow w a n xs) (hp : ∀ i, i < n → 0 < fval Ieee.single (xs i)) (hk : Row w ka m fun i => .float .f32 (ks i)) (K : Kern ks m all) (KB : Kern (fun i => ks (m - 1 - i)) m allb)
    (h0 : nows 0 = xs) (hS : ∀ r, r < R → ∃ x rt y, Sharp xs ks (fun i => ks (m - 1 - i)) n m all allb (nows r) x rt y (nows (r + 1))) :
    Calls Try.prog 25 #[.slice a n cap, .slice ka m kc, .int .i64 R] w (FNewOk w n (nows R)) := by
  obtain ⟨i0, hi, hz0, hz1, hz2⟩ := info_parts info27
  have hkr : FRow w ka m ks := ⟨hk, K.fin⟩
  have fall := K.fa rfl
  have fallb := KB.fa rfl
  have B := Lib.hid (isBins_any a n cap 1 xs w hn h1 hr)
  have P := Lib.hid (fun w' (hb : Below w.heap.size w w') => arePositive_any a n cap xs w' (by omega) (hr.below hb) hp)
  have IK := Lib.hid (fun w' (hb : Below w.heap.size w w') => isKernel_any ka m kc ks all w' hm (hkr.below hb) K.nn K.sum fall K.pa)
  have WI := Lib.hid (fun w => within_any R 0 32 w (by omega) (by omega))
  have C1 := Lib.hid (fun w' (hb : Below w.heap.size w w') => clone_any a n cap xs w' h1 (by omega) (hr.row.below hb))
  have C2 := Lib.hid (fun w' (hb : Below w.heap.size w w') => clone_any ka m kc ks w' (by omega) (by omega) (hk.below hb))
  have hnot : ∀ (b : Bool) (w : World), (Op.unary .not (.bool b)).run Try.prog w = .ok (.bool (!b)) w := fun _ _ => rfl
  have rs := run_store_float
  have HR := Lib.hid hr
  have HKR := Lib.hid hkr
  have HS := Lib.hid hS
  have HK := Lib.hid K
  have HKB := Lib.hid KB
  have HF := Lib.hid (And.intro fall fallb)
  have H0 := Lib.hid h0
  have hfn : Hid (∀ r, r ≤ R → ∀ i, i < n → fin Ieee.single (nows r i)) := fun r hr' i hi' => by
    match r, hr' with
    | 0, _ => rw [h0]; exact hr.fin i hi'
    | r + 1, hr' => obtain ⟨x, rt, y, h⟩ := hS r (by omega); exact h.fn i hi'
  clear hr hp hk hkr K KB h0 hS fall fallb
  go_enter Try.func25, Try.ntmps25
  go_wp2_with fail
  refine B.out.mono ?_
  rintro e w1 ⟨rfl, b1⟩
  have B1 := Lib.hid b1
  clear b1 B
  go_wp2_with fail
  refine (P.out _ B1.out).mono ?_
  rintro e w2 ⟨rfl, b2⟩
  have B2 := Lib.hid (B1.out.trans (b2.mono B1.out.size))
  clear b2 P B1
  go_wp2_with fail
  refine (IK.out _ B2.out).mono ?_
  rintro e w3 ⟨rfl, b3⟩
  have B3 := Lib.hid (B2.out.trans (b3.mono B2.out.size))
  clear b3 IK B2
  go_wp2_with fail
  refine (WI.out _).mono ?_
  rintro e w4 ⟨rfl, rfl⟩
  go_wp2_with fail
  refine (C1.out _ B3.out).mono ?_
  rintro e w5 ⟨oa, oc, rfl, o5, b5⟩
  have hs3 := B3.out.size
  have O5 := Lib.hid (own_le o5 hs3)
  have B5 := Lib.hid (B3.out.trans (b5.mono hs3))
  obtain ⟨g, gc, hgo⟩ := row_form o5 h1
  injection hgo with hga _ hgc
  subst hga; subst hgc
  have hg3 : w.heap.size ≤ g := by have := (o5.lt g rfl).1; omega
  clear o5 b5 C1
  go_wp2_with fail
  refine (C2.out _ B5.out).mono ?_
  rintro e w6 ⟨ka2, kc2, rfl, o6, b6⟩
  have hs5 := B5.out.size
  obtain ⟨h, hc, hho⟩ := row_form o6 (by omega)
  injection hho with hha _ hhc
  subst hha; subst hhc
  have hgh : g < h := by
    have h1 := (o6.lt h rfl).1
    have h2 := (O5.out.lt g rfl).2
    omega
  have O6 := Lib.hid (owns_below O5.out b6)
  have B6 := Lib.hid (B5.out.trans (b6.mono hs5))
  have Q6 := Lib.hid (own_le o6 hs5)
  clear o6 b6 C2 O5 B5
  have RV := Lib.hid (reverse_any w.heap.size h m kc2 ks w6 hm Q6.out)
  go_wp2_with fail
  refine RV.out.mono ?_
  rintro e w7 ⟨rfl, o7, g7⟩
  have O7 := Lib.hid (O6.out.kept g7 (Or.inr (by show some g ≠ some h; intro e; injection e with e; omega)))
  have Q7 := Lib.hid o7
  have hwh : w.heap.size ≤ h := by omega
  have B7 := Lib.hid (B6.out.grown g7 B6.out.size (fun j hj => by cases hj; exact hwh))
  clear o7 g7 RV O6 B6 Q6
  go_wp2
  go_loopw [42] (fun kk wr => ∃ r : Nat, r ≤ R ∧ kk = .int .i64 r ∧ Hid (wr.ownsRow w.heap.size 27 1 (.slice (some ⟨g, 0, none⟩) n oc) n ((List.range n).map (fw (nows r)))) ∧ Hid (wr.ownsRow w.heap.size 27 1 (.slice (some ⟨h, 0, none⟩) m kc2) m ((List.range m).map (fw fun i => ks (m - 1 - i)))) ∧ Hid (Below w.heap.size w wr)) (fun kk _ => R - (intOf kk).toNat)
  case atStart => exact ⟨0, Nat.zero_le _, rfl, by rw [H0.out]; exact O7.out, Q7.out, B7.out⟩
  case round =>
    obtain ⟨r, hrR, rfl, ho, hq, hbel⟩ := hrel
    by_cases hlt : r < R
    · obtain ⟨x, rt, y, hs⟩ := HS.out r hlt
      have SH := Lib.hid hs
      clear hs
      have S1 := Lib.hid (spreadBy_any (some ⟨g, 0, none⟩) ka n oc m kc (nows r) ks all x wr h1 hn hm (own_frow ho.out (hfn.out r hrR)) (HKR.out.below hbel.out) HK.out.nn HK.out.sum HF.out.1 HK.out.pa SH.out.hx SH.out.fx)
      have hltR : (r : Int) < (R : Int) := by omega
      go_wp2_with fail
      refine S1.out.mono ?_
      rintro e w8 ⟨xa, xc, rfl, ox, b8⟩
      have hs8 := hbel.out.size
      have X8 := Lib.hid (own_le ox hs8)
      have G8 := Lib.hid (owns_below ho.out b8)
      have H8 := Lib.hid (owns_below hq.out b8)
      have B8 := Lib.hid (hbel.out.trans (b8.mono hs8))
      have P8 := Lib.hid (arePositive_any xa n xc x w8 (by omega) (own_frow X8.out SH.out.fx) SH.out.px)
      clear ox b8 S1
      go_wp2_with fail
      refine P8.out.mono ?_
      rintro e w9 ⟨rfl, b9⟩
      have X9 := Lib.hid (owns_below X8.out b9)
      have G9 := Lib.hid (owns_below G8.out b9)
      have H9 := Lib.hid (owns_below H8.out b9)
      have B9 := Lib.hid (B8.out.trans (b9.mono B8.out.size))
      clear b9 P8 X8 G8 H8 B8 ho hq hbel hs8
      have hs9 := B9.out.size
      go_wp2
      have hown0 := World.ownsRow_made (base := w9.heap.size) (e := 27) (size := 1) w9 #[] 0 (Nat.le_refl _) (by decide) rfl
      go_loopw [12, 60] (fun v ii wv => ∃ (i : Nat), i ≤ n ∧ ii = .int .i64 i ∧ wv.ownsRow w9.heap.size 27 1 v i ((List.range i).map (fw rt)) ∧ Hid (Below w9.heap.size w9 wv)) (fun _ ii _ => n - (intOf ii).toNat)
      case atStart => exact ⟨0, by omega, rfl, hown0, (Below.refl _ _).alloc (Nat.le_refl _) _⟩
      case round =>
        obtain ⟨i, hin, rfl, hown, hb⟩ := hrel
        by_cases hli : i < n
        · obtain ⟨xb, xo, rfl, hx0⟩ := own_at X9.out i hli
          obtain ⟨lb, lo, rfl, hl0⟩ := HR.out.row i hli
          have cx : wr.cell? ⟨xb, xo + i, none⟩ = some (.float .f32 (x i)) := (hb.out.cell (p := ⟨xb, xo + i, none⟩) (World.block_lt_of_cell? w9 _ hx0)).trans hx0
          have cl := ((B9.out.trans (hb.out.mono hs9)).cell (p := ⟨lb, lo + i, none⟩) (World.block_lt_of_cell? w _ hl0)).trans hl0
          have a1 := ar (SH.out.hr i hli) 27
          have hlti : (i : Int) < (n : Int) := by omega
          obtain ⟨va, vc, rfl⟩ := row_slice hown
          have HOW := Lib.hid hown
          clear hx0 hl0 hown
          go_wp2_with (at_builtin; refine wpList_append_own _ rfl _ _ 37 rfl w9.heap.size 27 i0 (.float .f32 0) 1 4 Try.underlying37 hi hz0 hz1 hz2 rfl (by decide) _ _ _ rfl (HOW.out.alloc _) ⟨wr.heap.size, 0, none⟩ 1 1 [.float .f32 (rt i)] rfl rfl ?c1 ?c2 ?c3 ?c4 ?c5 ?_)
          case c2 => simp [Value.oneCell']
          case c3 => unfold maxLen; omega
          case c4 => omega
          case c5 => have := hb.out.size; simp at this ⊢; omega
          intro v' w5 hown' hgrow _
          have hb5 := Lib.hid ((hb.out.alloc hb.out.size _).grown hgrow (by have := hb.out.size; simp at this ⊢; omega) (fun j hj => (HOW.out.lt j hj).1))
          have hown2 : w5.ownsRow w9.heap.size 27 1 v' (i + 1) ((List.range (i + 1)).map (fw rt)) := by
            rw [List.range_succ, List.map_append]
            exact hown'
          have HO5 := Lib.hid hown2
          clear hgrow hown' hown2
          go_wp2
          go_roundw
          case rel => exact ⟨i + 1, by omega, by go_num, HO5.out, hb5.out⟩
          case measure => simp [intOf]; omega
        · obtain rfl : n = i := by omega
          obtain ⟨ra, rc, rfl⟩ := row_slice hown
          have HOW := Lib.hid hown
          have G10 := Lib.hid (owns_below G9.out hb.out)
          have H10 := Lib.hid (owns_below H9.out hb.out)
          have B10 := Lib.hid (B9.out.trans (hb.out.mono hs9))
          have S2 := Lib.hid (spreadBy_any ra (some ⟨h, 0, none⟩) n rc m kc2 rt (fun i => ks (m - 1 - i)) allb y wr h1 hn hm (own_frow HOW.out SH.out.fr) (own_frow H10.out HKB.out.fin) HKB.out.nn HKB.out.sum HF.out.2 HKB.out.pa SH.out.hy SH.out.fy)
          have hs9r := hb.out.size
          clear hown hb
          go_wp2_with fail
          refine S2.out.mono ?_
          rintro e w11 ⟨ya, yc, rfl, oy, b11⟩
          have hs10 := B10.out.size
          have Y11 := Lib.hid (own_le oy hs10)
          have hyg : Hid (∀ t, Value.ownBlock (.slice ya n yc) = some t → w9.heap.size ≤ t ∧ g < t) := fun t ht => by
            have h1 := (oy.lt t ht).1
            have h2 := (G10.out.lt g rfl).2
            have h3 := (G9.out.lt g rfl).2
            omega
          have G11 := Lib.hid (owns_below G10.out b11)
          have H11 := Lib.hid (owns_below H10.out b11)
          have B11 := Lib.hid (B10.out.trans (b11.mono hs10))
          clear oy b11 S2 HOW G10 H10 B10 G9 H9 B9 X9 hown0
          generalize w9.heap.size = base9 at *
          have hswr := hs9r
          clear hs9r hs9 hs10
          go_wp2
          go_loopw [85] (fun ii wv => ∃ i : Nat, i ≤ n ∧ ii = .int .i64 i ∧ Hid (wv.ownsRow w.heap.size 27 1 (.slice (some ⟨g, 0, none⟩) n oc) n ((List.range n).map (fw (mixW (nows (r + 1)) (nows r) i)))) ∧ Hid (wv.ownsRow w.heap.size 27 1 (.slice (some ⟨h, 0, none⟩) m kc2) m ((List.range m).map (fw fun i => ks (m - 1 - i)))) ∧ Hid (wv.ownsRow w.heap.size 27 1 (.slice ya n yc) n ((List.range n).map (fw y))) ∧ Hid (Below w.heap.size w wv)) (fun ii _ => n - (intOf ii).toNat)
          case atStart => exact ⟨0, Nat.zero_le _, rfl, by rw [mixW_none]; exact G11.out, H11.out, Y11.out, B11.out⟩
          case round =>
            obtain ⟨i, hin, rfl, hg, hh, hy, hb⟩ := hrel
            by_cases hli : i < n
            · obtain ⟨yb, yo, rfl, cy0⟩ := own_at hy.out i hli
              have cy : wr.cell? ⟨yb, yo + i, none⟩ = some (.float .f32 (y i)) := cy0
              have cg : wr.cell? ⟨g, i, none⟩ = some (.float .f32 (nows r i)) := by
                rw [hg.out.cellAt i (by omega)]
                simp [hli, fw, mixW]
              have hfo : wr.frozen? ⟨g, i, none⟩ = false := hg.out.frozenAt i
              have a1 := ar (SH.out.hn i hli) 27
              have hst := hg.out.stored i (.float .f32 (nows (r + 1) i))
              rw [mixW_set] at hst
              have HG2 := Lib.hid hst.1
              have HH2 := Lib.hid (hh.out.kept hst.2 (Or.inr (by show some h ≠ some g; intro e; injection e with e; omega)))
              have HY2 := Lib.hid (hy.out.kept hst.2 (by
                cases hyo : Value.ownBlock (.slice (some ⟨yb, yo, none⟩) n yc) with
                | none => exact Or.inl rfl
                | some t => right; intro e; injection e with e; have := (hyg.out t hyo).2; omega))
              have HB2 := Lib.hid (hb.out.grown hst.2 hb.out.size (fun j hj => by cases hj; omega))
              have hlti : (i : Int) < (n : Int) := by omega
              clear cy0 hst hg hh hy hb
              go_wp2
              go_region
              go_wp2
              go_roundw
              case rel => exact ⟨i + 1, by omega, by go_num, HG2.out.drew, HH2.out.drew, HY2.out.drew, below_drewN HB2.out 1⟩
              case measure => simp [intOf]; omega
            · obtain rfl : i = n := by omega
              have hg2 := hg.out
              rw [mixW_all] at hg2
              have HG2 := Lib.hid hg2
              clear hg2 hg hy
              go_wp2
              go_roundw
              case rel => exact ⟨r + 1, by omega, by go_num, HG2.out, hh.out, hb.out⟩
              case measure => simp [intOf]; omega
    · obtain rfl : R = r := by omega
      have CK := Lib.hid (checkedN_any (some ⟨g, 0, none⟩) n oc (nows R) wr (by omega) (own_frow ho.out (hfn.out R (Nat.le_refl _))))
      have hni : ¬ (R : Int) < (R : Int) := by omega
      go_wp2_with fail
      refine CK.out.mono ?_
      rintro e w8 ⟨rfl, b8⟩
      go_wp2
      go_ret2
      exact ⟨_, _, rfl, owns_below ho.out b8, hbel.out.trans (b8.mono hbel.out.size)⟩
end Go.Proofs.Ytdcfailgakofeaa
