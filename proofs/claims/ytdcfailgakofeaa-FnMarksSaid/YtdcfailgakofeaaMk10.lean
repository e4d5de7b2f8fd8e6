/-
  Walk: two lists are stitched.
-/
import Derived.Test.YtdcfailgakofeaaMk9
import Derived.Sort.AtCall
namespace Go.Proofs.Ytdcfailgakofeaa
open Go.RowKit Go.Flt

/-- A number scaled. -/
def scalW (ys : Nat → Nat) (q i : Nat) : Nat := (floatBits .mul .f32 (ys i) q).getD 0
def midW (xs ys : Nat → Nat) (q frm j : Nat) : Nat := ((floatBits .add .f32 (xs j) (scalW ys q (j - frm))).bind fun s => floatBits .mul .f32 1056964608 s).getD 0
/-- The stitched list. -/
def stitchW (xs ys : Nat → Nat) (q n frm j : Nat) : Nat := if j < frm then xs j else if j < n then midW xs ys q frm j else scalW ys q (j - frm)

structure Stitch (xs ys : Nat → Nat) (q n m over : Nat) : Prop where
  scal : ∀ i, i < m → floatBits .mul .f32 (ys i) q = some (scalW ys q i)
  half : ∀ i, i < over → ∃ s, floatBits .add .f32 (xs (n - over + i)) (scalW ys q i) = some s ∧ floatBits .mul .f32 1056964608 s = some (stitchW xs ys q n (n - over) (n - over + i))
  fin : ∀ j, j < n + (m - over) → fin Ieee.single (stitchW xs ys q n (n - over) j)

theorem row_form {w : World} {base : Nat} {e : TypeId} {v : Value} {n : Nat} {xs : List Value} (h : w.ownsRow base e 1 v n xs) (h1 : 1 ≤ n) : ∃ g c, v = .slice (some ⟨g, 0, none⟩) n c := by
  rcases h.2 with ⟨_, h2⟩ | ⟨g, cap', cur, h2, _⟩
  · omega
  · exact ⟨g, cap', h2⟩

set_option maxHeartbeats 6400000 in
set_option maxRecDepth 100000 in
theorem stitch_any (a ba : Option Addr) (n cap m bc over : Nat) (xs ys : Nat → Nat) (s1 s2 q : Nat) (w : World) (h1 : 1 ≤ n) (hm1 : 1 ≤ m) (hlen : n + m ≤ 64) (ho1 : 1 ≤ over) (hon : over ≤ n) (hom : over ≤ m) (hcap : n ≤ cap) (hbc : m ≤ bc)
    (hr : FRow w a n xs) (hb : FRow w ba m ys) (hs1 : sumW (fun i => xs (n - over + i)) over = some s1) (hs2 : sumW ys over = some s2) (hq : floatBits .quo .f32 s1 s2 = some q) (fq : fin Ieee.single q) (hS : Stitch xs ys q n m over) :
    Calls Try.prog 23 #[.slice a n cap, .slice ba m bc, .int .i64 over] w (FNewOk w (n + (m - over)) (stitchW xs ys q n (n - over))) := by
  obtain ⟨i0, hi, hz0, hz1, hz2⟩ := info_parts info27
  obtain ⟨b, o, rfl, _⟩ := hr.row 0 (by omega)
  obtain ⟨b2, o2, rfl, _⟩ := hb.row 0 (by omega)
  obtain ⟨fr, hfr⟩ : ∃ fr : Nat, fr = n - over := ⟨_, rfl⟩
  have hadd0 : (⟨b2, o2, none⟩ : Addr).add 0 = ⟨b2, o2, none⟩ := by unfold Addr.add; split <;> simp_all
  have hadd1 : (⟨b, o, none⟩ : Addr).add fr = ⟨b, o + fr, none⟩ := by unfold Addr.add; split <;> simp_all
  have B1 := Lib.hid (fun w' (hbl : Below w.heap.size w w') => isBins_any (some ⟨b, o, none⟩) n cap 1 xs w' (by omega) h1 (hr.below hbl))
  have B2 := Lib.hid (fun w' (hbl : Below w.heap.size w w') => isBins_any (some ⟨b2, o2, none⟩) m bc 1 ys w' (by omega) hm1 (hb.below hbl))
  have hrow1 : Row w (some ⟨b, o + fr, none⟩) over (fun i => .float .f32 (xs (n - over + i))) := fun i hi => by
    obtain ⟨b', o', e1, e2⟩ := hr.row (fr + i) (by omega)
    injection e1 with e1; injection e1 with e3 e4; subst e3; subst e4
    exact ⟨_, _, rfl, by rw [show o + fr + i = o + (fr + i) by omega, e2, hfr]⟩
  have hrow2 : Row w (some ⟨b2, o2, none⟩) over (fun i => .float .f32 (ys i)) := fun i hi => hb.row i (by omega)
  have S1 := Lib.hid (fun c w' (hbl : Below w.heap.size w w') => sum_any (some ⟨b, o + fr, none⟩) over c _ s1 w' (by omega) (hrow1.below hbl) hs1)
  have S2 := Lib.hid (fun c w' (hbl : Below w.heap.size w w') => sum_any (some ⟨b2, o2, none⟩) over c _ s2 w' (by omega) (hrow2.below hbl) hs2)
  have C := Lib.hid (fun w' (hbl : Below w.heap.size w w') => clone_any (some ⟨b, o, none⟩) n cap xs w' h1 (by omega) (hr.row.below hbl))
  have F := Lib.hid (fun w => isFinite_any q w fq.1)
  rw [fin_finB fq] at F
  have HR := Lib.hid hr
  have HB := Lib.hid hb
  have HS := Lib.hid hS
  have aq := ar hq 27
  have hnot : ∀ (b : Bool) (w : World), (Op.unary .not (.bool b)).run Try.prog w = .ok (.bool (!b)) w := fun _ _ => rfl
  have rs := run_store_float
  have t1 : ¬ (over : Int) < 1 := by omega
  have t2 : ¬ (n : Int) < (over : Int) := by omega
  have t3 : ¬ (m : Int) < (over : Int) := by omega
  have t4 : ¬ (64 : Int) < (n : Int) + (m : Int) - (over : Int) := by omega
  have t5 : (n : Int) - (over : Int) = (fr : Int) := by omega
  have t6 : (fr : Int) ≤ (n : Int) := by omega
  have t7 : (over : Int) ≤ (bc : Int) := by omega
  have t8 : cap ≠ fr := by omega
  have t9 : bc ≠ 0 := by omega
  have e1 : n - fr = over := by omega
  have HFR := Lib.hid hfr
  clear hr hb hs1 hs2 hq fq hS hrow1 hrow2 hfr
  go_enter Try.func23, Try.ntmps23
  go_wp2_with fail
  refine (B1.out _ (Below.refl _ _)).mono ?_
  rintro e w1 ⟨rfl, b1⟩
  have L1 := Lib.hid b1
  clear b1 B1
  go_wp2_with fail
  refine (B2.out _ L1.out).mono ?_
  rintro e w2 ⟨rfl, b2'⟩
  have L2 := Lib.hid (L1.out.trans (b2'.mono L1.out.size))
  clear b2' B2 L1
  go_wp2
  go_quiet ((first
    | (go_at_call_has 62 (Value.slice (some ⟨b, o + fr, none⟩) over (cap - fr)); exact Calls.quiet_of ((S1.out _ _ (below_drewN L2.out _)).mono fun _ _ h => h.quiet))
    | (go_at_call_has 62 (Value.slice (some ⟨b2, o2, none⟩) over bc); exact Calls.quiet_of ((S2.out _ _ (below_drewN L2.out _)).mono fun _ _ h => h.quiet))))
  generalize hw3 : w2.drewN nq = w3
  have L3 : Hid (Below w.heap.size w w3) := by rw [← hw3]; exact below_drewN L2.out nq
  clear hw3 S1 S2 L2 w2
  go_wp2_with fail
  refine (C.out _ L3.out).mono ?_
  rintro e w4 ⟨oa, oc, rfl, oo, b4⟩
  have hsz := L3.out.size
  have O4 := Lib.hid (own_le oo hsz)
  have L4 := Lib.hid (L3.out.trans (b4.mono hsz))
  clear oo b4 C L3
  go_wp2
  go_loopw [10, 65] (fun v ii wr => ∃ (i : Nat) (len : Nat), i ≤ m ∧ ii = .int .i64 i ∧ Hid (len = max n (fr + i)) ∧ wr.ownsRow w.heap.size 27 1 v len ((List.range len).map (fw (mixW (stitchW xs ys q n fr) xs (fr + i)))) ∧ Hid (Below w.heap.size w wr)) (fun _ ii _ => m - (intOf ii).toNat)
  case atStart =>
    refine ⟨0, n, by omega, rfl, (by show n = max n (fr + 0); omega), ?_, L4.out⟩
    have e : (List.range n).map (fw (mixW (stitchW xs ys q n fr) xs (fr + 0))) = (List.range n).map (fw xs) := by
      apply List.map_congr_left
      intro j hj
      unfold fw mixW stitchW
      by_cases h : j < fr <;> simp [h]
    rw [e]
    exact O4.out
  case round =>
    obtain ⟨i, len, him, rfl, hlen2, hown, hbel⟩ := hrel
    have hlen3 := hlen2.out
    by_cases hlt : i < m
    · obtain ⟨b', o', e1', hc0⟩ := HB.out.row i hlt
      injection e1' with e1'; injection e1' with e3 e4; subst e3; subst e4
      have hc := (hbel.out.cell (p := ⟨b2, o2 + i, none⟩) (World.block_lt_of_cell? w _ hc0)).trans hc0
      have a1 := ar (HS.out.scal i hlt) 27
      have hlti : (i : Int) < (m : Int) := by omega
      clear hc0
      by_cases hov : i < over
      · have hovi : (i : Int) < (over : Int) := by omega
        have hl : len = n := by rw [hlen3]; omega
        clear hlen3
        subst hl
        obtain ⟨p, hp⟩ : ∃ p, p = fr + i := ⟨_, rfl⟩
        obtain ⟨b', o', e1', hc0⟩ := HR.out.row p (by omega)
        injection e1' with e1'; injection e1' with e3 e4; subst e3; subst e4
        have hc1 := (hbel.out.cell (p := ⟨b, o + p, none⟩) (World.block_lt_of_cell? w _ hc0)).trans hc0
        obtain ⟨s, hs1, hs2⟩ := HS.out.half i hov
        rw [← HFR.out, ← hp] at hs1 hs2
        have a2 := ar hs1 27
        have a3 := ar hs2 27
        obtain ⟨g, gc, rfl⟩ := row_form hown (by omega)
        have hgw : w.heap.size ≤ g := (hown.lt g rfl).1
        have hco : ∃ u, wr.cell? ⟨g, p, none⟩ = some u := by
          rw [hown.cellAt p (by omega)]; simp [show p < len by omega]
        obtain ⟨u, hco⟩ := hco
        have hfo : wr.frozen? ⟨g, p, none⟩ = false := hown.frozenAt p
        have hst := hown.stored p (.float .f32 (stitchW xs ys q len fr p))
        rw [← hp, mixW_set] at hst
        have HST := Lib.hid hst.1
        have HBK := Lib.hid (hbel.out.grown hst.2 hbel.out.size (fun j hj => by cases hj; exact hgw))
        have hfi : (fr : Int) + (i : Int) = (p : Int) := by omega
        have hfl : (p : Int) < (len : Int) := by omega
        have HP := Lib.hid hp
        clear hc0 hs1 hs2 hst hown hbel hp
        go_wp2
        go_roundw
        case rel => exact ⟨i + 1, len, by omega, by go_num, (by show len = max len (fr + (i + 1)); omega), (by have := HST.out; rw [show fr + (i + 1) = p + 1 by rw [HP.out]; omega]; exact this), HBK.out⟩
        case measure => simp [intOf]; omega
      · have hovi : ¬ (i : Int) < (over : Int) := by omega
        have hl : len = fr + i := by rw [hlen3]; omega
        clear hlen3
        obtain ⟨va, vc, rfl⟩ := row_slice hown
        have hval : scalW ys q i = stitchW xs ys q n fr (fr + i) := by
          unfold stitchW
          rw [if_neg (by omega), if_neg (by omega)]
          congr 1; omega
        rw [hval] at a1
        have HOW := Lib.hid hown
        have HBL := Lib.hid hbel.out
        clear hown hbel hval
        go_wp2_with (at_builtin; refine wpList_append_own _ rfl _ _ 37 rfl w.heap.size 27 i0 (.float .f32 0) 1 4 Try.underlying37 hi hz0 hz1 hz2 rfl (by decide) _ _ _ rfl (HOW.out.alloc _) ⟨wr.heap.size, 0, none⟩ 1 1 [.float .f32 (stitchW xs ys q n fr (fr + i))] rfl rfl ?c1 ?c2 ?c3 ?c4 ?c5 ?_)
        case c2 => simp [Value.oneCell']
        case c3 => unfold maxLen; omega
        case c4 => omega
        case c5 => have := HBL.out.size; simp at this ⊢; omega
        intro v' w5 hown' hgrow _
        have hb5 := Lib.hid ((HBL.out.alloc HBL.out.size _).grown hgrow (by have := HBL.out.size; simp at this ⊢; omega) (fun j hj => (HOW.out.lt j (by rw [hl]; exact hj)).1))
        have hown2 : w5.ownsRow w.heap.size 27 1 v' (len + 1) ((List.range (len + 1)).map (fw (mixW (stitchW xs ys q n fr) xs (fr + (i + 1))))) := by
          subst hl
          rw [mixW_app _ _ (fr + i) (fr + i) (Nat.le_refl _)] at hown'
          exact hown'
        have HO5 := Lib.hid hown2
        clear hgrow hown' hown2
        go_wp2
        go_roundw
        case rel => exact ⟨i + 1, len + 1, by omega, by go_num, (by show len + 1 = max n (fr + (i + 1)); omega), HO5.out, hb5.out⟩
        case measure => simp [intOf]; omega
    · obtain rfl : i = m := by omega
      obtain rfl : len = n + (i - over) := by rw [hlen3]; omega
      have hall : (List.range (n + (i - over))).map (fw (mixW (stitchW xs ys q n fr) xs (fr + i))) = (List.range (n + (i - over))).map (fw (stitchW xs ys q n fr)) := by
        apply List.map_congr_left
        intro j hj
        have := List.mem_range.1 hj
        unfold fw mixW
        rw [if_pos (by omega)]
      rw [hall] at hown
      obtain ⟨va, vc, rfl⟩ := row_slice hown
      have HOW := Lib.hid hown
      have HBL := Lib.hid hbel.out
      have CK := Lib.hid (fun w' (hb : Below wr.heap.size wr w') => checkedN_any va (n + (i - over)) vc (stitchW xs ys q n fr) w' (by omega) ((own_frow hown (fun j hj => by
        have := HS.out.fin j hj
        rw [← HFR.out] at this
        exact this)).below hb))
      have hni : ¬ (i : Int) < (i : Int) := by omega
      clear hown hbel hall hlen3 hlen2
      go_wp2_with fail
      refine (F.out _).mono ?_
      rintro e w5 ⟨rfl, q5, rfl⟩
      go_wp2_with fail
      refine (CK.out _ (below_drewN (Below.refl _ _) q5)).mono ?_
      rintro e w6 ⟨rfl, b6⟩
      have b6' : Below wr.heap.size wr w6 := (below_drewN (Below.refl _ wr) q5).trans b6
      have B6 := Lib.hid b6'
      clear b6 b6'
      go_wp2
      go_ret2
      rw [← HFR.out]
      exact ⟨_, _, rfl, owns_below HOW.out B6.out, HBL.out.trans (B6.out.mono HBL.out.size)⟩
end Go.Proofs.Ytdcfailgakofeaa
