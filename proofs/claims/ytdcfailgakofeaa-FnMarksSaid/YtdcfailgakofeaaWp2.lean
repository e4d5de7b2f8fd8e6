/-
  Walk: phases are turned.
-/
import Derived.Test.YtdcfailgakofeaaWp1
import Derived.Test.YtdcfailgakofeaaWk13
namespace Go.Proofs.Ytdcfailgakofeaa
open Go.RowKit Go.Flt

/-- What a number of turns is to be. -/
structure Turn (t : Nat) : Prop where
  fin : fin Ieee.single t
  wide : floatToFloatBits .f32 t .f64 = some (wide32 t)
  mul : ∀ i : Nat, i < 8 → floatBits .mul .f64 (wide32 t) (FloatKind.f64.nearest (i : Int)) = some (turnAt t i)
  tame : ∀ i : Nat, i < 8 → Tame (turnAt t i)

theorem fin_finB {x : Nat} (h : fin Ieee.single x) : finB Ieee.single x = true := finB_iff.2 h
theorem allC_fin {re im : Nat → Nat} {n : Nat} (h : ∀ i, i < n → fin Ieee.single (re i) ∧ fin Ieee.single (im i)) : allC re im n = true := by
  unfold allC
  have : anyOf (fun i => !finC (re i) (im i)) n = false := by
    rw [anyOf_false]
    intro i hi
    unfold finC
    rw [fin_finB (h i hi).1, fin_finB (h i hi).2]; rfl
  rw [this]; rfl

set_option maxHeartbeats 3200000 in
set_option maxRecDepth 100000 in
theorem turn_any (a : Option Addr) (n cap : Nat) (re im : Nat → Nat) (t : Nat) (zs : Nat → Nat × Nat) (w : World) (hn : n ≤ 8) (hr : Row w a n fun i => .complex .f32 (re i) (im i)) (hx : ∀ i, i < n → fin Ieee.single (re i) ∧ fin Ieee.single (im i)) (ht : Turn t)
    (hz : ∀ i, i < n → ∃ p, phasor (turnAt t i) = some p ∧ mulC (re i) (im i) p.1 p.2 = some (zs i) ∧ fin Ieee.single (zs i).1 ∧ fin Ieee.single (zs i).2) :
    Calls Try.prog 11 #[.slice a n cap, .float .f32 t] w (LinedAt w true ((List.range n).map zs)) := by
  have HP := Lib.hid (arePhases_any a n cap re im 0 w (by omega) (by omega) hr (fun i hi => ⟨(hx i hi).1.1, (hx i hi).2.1⟩) (allC_fin hx))
  have HF := Lib.hid (fun w => isFinite_any t w ht.fin.1)
  rw [fin_finB ht.fin] at HF
  obtain ⟨i0, hi, hz0, hz1, hz2⟩ := info_parts info30
  have HR := Lib.hid hr
  have HT := Lib.hid ht
  have HZ := Lib.hid hz
  have hnot : ∀ (b : Bool) (w : World), (Op.unary .not (.bool b)).run Try.prog w = .ok (.bool (!b)) w := fun _ _ => rfl
  have cw := cv (src := 27) (dst := 33) u27 Try.underlying33 ht.wide
  clear hr hx ht hz
  go_enter Try.func11, Try.ntmps11
  go_wp2_with fail
  refine HP.out.mono ?_
  rintro e w1 ⟨rfl, hb1⟩
  go_wp2_with fail
  refine (HF.out _).mono ?_
  rintro e w2 ⟨rfl, q0, rfl⟩
  have hb2 := Lib.hid (below_drewN hb1 q0)
  clear hb1 HP HF
  generalize w1.drewN q0 = w2 at *
  go_wp2
  have hsz := hb2.out.size
  go_loopw [6, 20] (fun v kk wr => ∃ (k : Nat) (acc : List (Nat × Nat)), k ≤ n ∧ kk = .int .i64 k ∧ Hid (acc = (List.range k).map zs) ∧ wr.ownsRow w.heap.size 30 1 v acc.length (acc.map cx) ∧ Below w.heap.size w wr) (fun _ kk _ => n - (intOf kk).toNat)
  case atStart =>
    refine ⟨0, [], by omega, rfl, rfl, ?_, ?_⟩
    · exact World.ownsRow_made w2 #[] 0 hsz (by decide) rfl
    · exact hb2.out.alloc hsz _
  case round =>
    obtain ⟨k, acc, hk, rfl, hacc, hown, hbel⟩ := hrel
    by_cases hlt : k < n
    · obtain ⟨wo, rfl⟩ : ∃ wo : World, wo = wr := ⟨_, rfl⟩
      obtain ⟨b, off, rfl, hc0⟩ := HR.out k hlt
      have hc := (hbel.cell (p := ⟨b, off + k, none⟩) (World.block_lt_of_cell? w _ hc0)).trans hc0
      obtain ⟨⟨c, s⟩, hp, hm, _, _⟩ := HZ.out k hlt
      have a1 : ∀ w, (binOp .mul 33 (.float .f64 (wide32 t)) (.float .f64 (floatOfInt .f64 (k : Int)))).run Try.prog w = .ok (.float .f64 (turnAt t k)) w := ar (HT.out.mul k (by omega)) 33
      have PH := Lib.hid (fun w => phasor_any _ _ _ w (HT.out.tame k (by omega)) hp)
      have MU := Lib.hid (fun w => mulC_any w hm)
      have hacl : acc.length = k := by rw [hacc.out]; simp
      clear hc0 hp hm
      go_wp2_with fail
      refine (PH.out _).mono ?_
      rintro e w3 ⟨rfl, rfl⟩
      go_wp2_with fail
      refine (MU.out _).mono ?_
      rintro e w3 ⟨rfl, rfl⟩
      have hown2 : wo.drew.ownsRow w.heap.size 30 1 u6 acc.length (acc.map cx) := hown
      have hbel2 : Below w.heap.size w wo.drew := below_drewN hbel 1
      have hwz : wo.drew.heap.size = wo.heap.size := rfl
      generalize hzk : zs k = z at *
      obtain ⟨x, y⟩ := z
      clear hown hbel
      go_wp2_with (at_builtin; refine wpList_append_own _ rfl _ _ 25 rfl w.heap.size 30 i0 (.complex .f32 0 0) 1 8 Try.underlying25 hi hz0 hz1 hz2 rfl (by decide) _ _ _ rfl (hown2.alloc _) ⟨wo.heap.size, 0, none⟩ 1 1 [.complex .f32 x y] rfl rfl ?c1 ?c2 ?c3 ?c4 ?c5 ?_)
      case c1 => exact cell_one_new _ _ _
      case c2 => simp [Value.oneCell']
      case c3 => unfold maxLen; omega
      case c4 => omega
      case c5 => have := hbel2.size; simp at this ⊢; omega
      intro v' w3 hown' hgrow _
      have hb3 : Below w.heap.size w w3 := (hbel2.alloc hbel2.size _).grown hgrow (by have := hbel2.size; simp at this ⊢; omega) (fun j hj => (hown2.lt j hj).1)
      clear hgrow hown2 hbel2
      go_wp2
      go_roundw
      case rel => exact ⟨k + 1, acc ++ [(x, y)], by omega, by go_num, by rw [hacc.out, List.range_succ, List.map_append]; unfold Hid; simp [hzk], by rw [show (acc ++ [(x, y)]).length = k + 1 by simp [hacl]]; simpa [cx] using hown', hb3⟩
      case measure => simp [intOf]; omega
    · obtain rfl : k = n := by omega
      have hx2 : ∀ i, i < k → fin Ieee.single (zs i).1 ∧ fin Ieee.single (zs i).2 := fun i hi => by
        obtain ⟨p, _, _, h3, h4⟩ := HZ.out i hi
        exact ⟨h3, h4⟩
      have ha := hacc.out
      subst ha
      rw [cx_range] at hown
      have hlen : ((List.range k).map zs).length = k := by simp
      obtain ⟨av, cv', rfl, hrow⟩ := own_row hown
      have hrow2 : Row wr av k fun i => .complex .f32 (zs i).1 (zs i).2 := by
        intro i hi
        obtain ⟨b, o, h1, h2⟩ := hrow i (by rw [hlen]; exact hi)
        refine ⟨b, o, h1, ?_⟩
        rw [h2]; unfold cxAt; simp [hi]
      have HC := Lib.hid (checkedComplex_any av k cv' (fun i => (zs i).1) (fun i => (zs i).2) wr (by omega) hrow2 (fun i hi => ⟨(hx2 i hi).1.1, (hx2 i hi).2.1⟩))
      rw [allC_fin hx2] at HC
      simp only [if_true] at HC
      have HO := Lib.hid hown
      have HB := Lib.hid hbel
      rw [hlen] at hown
      rw [hlen]
      clear hown hbel hrow hrow2 hacc hx2
      go_wp2_with fail
      refine HC.out.mono ?_
      rintro e w3 ⟨rfl, hb3⟩
      go_wp2
      go_ret2
      refine ⟨av, cv', by rw [hlen]; rfl, ?_, HB.out.trans (hb3.mono HB.out.size)⟩
      have := owns_below HO.out hb3
      rw [hlen] at this ⊢
      exact this
end Go.Proofs.Ytdcfailgakofeaa
