/-
  The law's own comparison of lists of numbers: a list equals itself, whatever not-a-numbers it has.
-/
import Derived.Test.YtdcfailgakofeaaWk9
namespace Go.Proofs.Ytdcfailgakofeaa
open Go.RowKit Go.Flt


/-- The word that a not-a-number widened draws. -/
def drawnWide (x : Nat) (w : World) : Nat := Question.cut (.nanConv .f64 x) (w.tape w.drawn (.nanConv .f64 x))
theorem cut_nan64 (t : Nat) : isNan Ieee.double (t % 2 * 2 ^ 63 + 0x7ff0000000000000 + 1 + (t / 2) % (2 ^ 52 - 1)) :=
  drawn_nan .f64 0 0 { (default : World) with tape := fun _ _ => t }
theorem drawnWide_nan (x : Nat) (w : World) : isNan Ieee.double (drawnWide x w) := cut_nan64 _
theorem run_wide_nan {x : Nat} (h : isNan Ieee.single x) (w : World) : (convert 27 33 (.float .f32 x)).run Try.prog w = .ok (.float .f64 (drawnWide x w)) w.drew := by
  unfold isNan at h
  have hd : ∃ s t, FloatKind.f32.decode x = .nan s t := by
    unfold FloatKind.decode
    cases hr : FloatKind.f32.format.read x with
    | nan s t => exact ⟨s, t, rfl⟩
    | number s m e => rw [show Ieee.single.read x = _ from hr] at h; cases h
    | infinity s => rw [show Ieee.single.read x = _ from hr] at h; cases h
  obtain ⟨s, t, hd⟩ := hd
  have hu := Try.underlying27
  have hv := Try.underlying33
  simp [convert, run_underlying hu, run_underlying hv, Conv.floatToFloat, hd, go_sem, drawnWide]

/-- What a number widened is: told, or a not-a-number of a not-a-number. -/
def Wide (x v : Nat) : Prop := (floatToFloatBits .f32 x .f64 = some v ∧ ¬ isNan Ieee.double v) ∨ (isNan Ieee.single x ∧ isNan Ieee.double v)

theorem wide_none {x : Nat} (h : isNan Ieee.single x) : floatToFloatBits .f32 x .f64 = none := by
  unfold isNan at h
  unfold floatToFloatBits FloatKind.decode
  rw [if_neg (by decide)]
  have e : FloatKind.f32.format = Ieee.single := rfl
  rw [e]
  cases hr : Ieee.single.read x with
  | nan s t => rfl
  | number s m e => rw [hr] at h; cases h
  | infinity s => rw [hr] at h; cases h

theorem inf_not_nan (s : Bool) : ¬ isNan Ieee.double (FloatKind.f64.encode (.infinity s)) := by
  unfold isNan
  cases s <;> decide +kernel

/-- The conversion gives a wide one, in some world. -/
theorem run_wide {x : Nat} (hx : W32 x) (w : World) : ∃ v m, (convert 27 33 (.float .f32 x)).run Try.prog w = .ok (.float .f64 v) (w.drewN m) ∧ Wide x v := by
  by_cases hn : isNan Ieee.single x
  · exact ⟨_, 1, run_wide_nan hn w, Or.inr ⟨hn, drawnWide_nan x w⟩⟩
  · have hs : ∃ v, floatToFloatBits .f32 x .f64 = some v ∧ ¬ isNan Ieee.double v := by
      by_cases hf : fin Ieee.single x
      · obtain ⟨r, hr, fr, _⟩ := widen hf
        exact ⟨r, hr, fin_not_nan fr⟩
      · unfold isNan at hn
        cases hr : Ieee.single.read x with
        | nan s t => rw [hr] at hn; exact absurd rfl hn
        | infinity s =>
          refine ⟨_, ?_, inf_not_nan s⟩
          unfold floatToFloatBits FloatKind.decode
          rw [if_neg (by decide), show FloatKind.f32.format = Ieee.single from rfl, hr]
        | number s m e =>
          exfalso
          apply hf
          refine ⟨hx, ?_⟩
          unfold Ieee.Format.read at hr
          simp only [] at hr
          by_cases h1 : x % Ieee.single.signWeight < Ieee.single.binade
          · have : Ieee.single.binade ≤ Ieee.single.infRung := by decide
            omega
          · rw [if_neg h1] at hr
            by_cases h2 : x % Ieee.single.signWeight < Ieee.single.infRung
            · exact h2
            · rw [if_neg h2] at hr
              split at hr <;> cases hr
    obtain ⟨v, hv, hnv⟩ := hs
    exact ⟨v, 0, cv (src := 27) (dst := 33) u27 Try.underlying33 hv w, Or.inl ⟨hv, hnv⟩⟩

theorem same_wide {x v u : Nat} (hv : Wide x v) (hu : Wide x u) (w : World) : Calls Try.prog 75 #[.float .f64 v, .float .f64 u] w (Quiet w (.bool true)) := by
  rcases hv with ⟨h1, h2⟩ | ⟨h1, h2⟩
  · rcases hu with ⟨h3, h4⟩ | ⟨h3, h4⟩
    · obtain rfl : v = u := Option.some.inj (h1.symm.trans h3)
      exact same_one v w h2
    · rw [wide_none h3] at h1; cases h1
  · rcases hu with ⟨h3, h4⟩ | ⟨h3, h4⟩
    · rw [wide_none h1] at h3; cases h3
    · exact same_nan v u w h2 h4

theorem getD_set_ne {l : Array Bool} {i j : Nat} (h : i ≠ j) : (l.setIfInBounds i true).getD j false = l.getD j false := by
  simp [Array.getElem?_setIfInBounds, h]

set_option maxHeartbeats 3200000 in
set_option maxRecDepth 100000 in
theorem eqF_any (a1 a2 : Option Addr) (n c1 c2 : Nat) (xs : Nat → Nat) (w : World) (hn : n ≤ 1048576) (h1 : Row w a1 n fun i => .float .f32 (xs i)) (h2 : Row w a2 n fun i => .float .f32 (xs i)) (hf : ∀ i, i < n → W32 (xs i)) :
    Calls Try.prog 30 #[.slice a1 n c1, .slice a2 n c2] w (Quiet w (.bool true)) := by
  have H1 := Lib.hid h1
  have H2 := Lib.hid h2
  have HF := Lib.hid hf
  have hnot : ∀ (b : Bool) (w : World), (Op.unary .not (.bool b)).run Try.prog w = .ok (.bool (!b)) w := fun _ _ => rfl
  have hne : ((n : Int) != (n : Int)) = false := by simp
  clear h1 h2 hf
  go_enter Try.func30, Try.ntmps30
  go_wp2
  go_loopw [5] (fun i wr => ∃ k : Nat, k ≤ n ∧ i = .int .i64 k ∧ Hid (∃ nq, wr = w.drewN nq)) (fun i _ => n - (intOf i).toNat)
  case atStart => exact ⟨0, Nat.zero_le _, rfl, 0, rfl⟩
  case round =>
    obtain ⟨k, hk, rfl, hq⟩ := hrel
    by_cases hlt : k < n
    · obtain ⟨b1, o1, rfl, hc01⟩ := H1.out k hlt
      obtain ⟨b2, o2, rfl, hc02⟩ := H2.out k hlt
      have hc1 : wr.cell? ⟨b1, o1 + k, none⟩ = some (.float .f32 (xs k)) := by obtain ⟨nq, rfl⟩ := hq.out; exact hc01
      have hc2 : wr.cell? ⟨b2, o2 + k, none⟩ = some (.float .f32 (xs k)) := by obtain ⟨nq, rfl⟩ := hq.out; exact hc02
      clear hc01 hc02
      have hlk : (k : Int) < (n : Int) := by omega
      go_wp2_with fail
      have HW := Lib.hid (HF.out k hlt)
      have hsz : ∀ (m : Nat), (wr.drewN m).cell? ⟨b1, o1 + k, none⟩ = some (.float .f32 (xs k)) ∧ (wr.drewN m).cell? ⟨b2, o2 + k, none⟩ = some (.float .f32 (xs k)) := fun m => ⟨hc1, hc2⟩
      refine wp_region_any (by kernel_rfl) ?_
      refine wpAny_inv (fun listed a w2 => listed.size = 12 ∧ (∃ m, w2 = wr.drewN m) ∧ ∃ t17 t18 t19 t20 t21 t22 t23 t24 t25 t26 t27 t28 : Value, a = { tmps := #[.slice (some ⟨b1, o1, none⟩) n c1, .slice (some ⟨b2, o2, none⟩) n c2, undef, undef, u4, .int .i64 k, .slice (some ⟨b1, o1, none⟩) n c1, .int .i64 n, .slice (some ⟨b2, o2, none⟩) n c2, .int .i64 n, .bool false, .int .i64 k, .slice (some ⟨b1, o1, none⟩) n c1, .int .i64 n, .bool true, u15, u16, t17, t18, t19, t20, t21, t22, t23, t24, t25, t26, t27, t28], defers := [] } ∧ (listed.getD 0 false = true → t17 = .slice (some ⟨b1, o1, none⟩) n c1) ∧ (listed.getD 1 false = true → t18 = .int .i64 k) ∧ (listed.getD 2 false = true → t19 = .pointer (some ⟨b1, o1 + k, none⟩)) ∧ (listed.getD 3 false = true → t20 = .float .f32 (xs k)) ∧ (listed.getD 4 false = true → ∃ v, t21 = .float .f64 v ∧ Wide (xs k) v) ∧ (listed.getD 5 false = true → t22 = .slice (some ⟨b2, o2, none⟩) n c2) ∧ (listed.getD 6 false = true → t23 = .int .i64 k) ∧ (listed.getD 7 false = true → t24 = .pointer (some ⟨b2, o2 + k, none⟩)) ∧ (listed.getD 8 false = true → t25 = .float .f32 (xs k)) ∧ (listed.getD 9 false = true → ∃ v, t26 = .float .f64 v ∧ Wide (xs k) v) ∧ (listed.getD 10 false = true → t27 = .bool true) ∧ (listed.getD 11 false = true → t28 = .bool false)) ?sz ?step ?done _ _ _ _ (restOf_le _ _) ?start
      case sz => exact fun _ _ _ h => h.1
      case start =>
        exact ⟨rfl, ⟨1, rfl⟩, u17, u18, u19, u20, u21, u22, u23, u24, u25, u26, u27, u28, rfl, fun h => by simp at h, fun h => by simp at h, fun h => by simp at h, fun h => by simp at h, fun h => by simp at h, fun h => by simp at h, fun h => by simp at h, fun h => by simp at h, fun h => by simp at h, fun h => by simp at h, fun h => by simp at h, fun h => by simp at h⟩
      case done =>
        rintro listed a w2 ⟨hs, ⟨m, rfl⟩, t17, t18, t19, t20, t21, t22, t23, t24, t25, t26, t27, t28, rfl, h0, h1, h2, h3, h4, h5, h6, h7, h8, h9, h10, h11⟩ hr
        have L0 := ready_nil (i := 0) hr rfl hs (by simp)
        have L1 := ready_nil (i := 1) hr rfl hs (by simp)
        have L2 := ready_nil (i := 2) hr rfl hs (by simp at L0 L1 ⊢; exact ⟨Or.inr L0, Or.inr L1⟩)
        have L3 := ready_nil (i := 3) hr rfl hs (by simp at L2 ⊢; exact Or.inr L2)
        have L4 := ready_nil (i := 4) hr rfl hs (by simp at L3 ⊢; exact Or.inr L3)
        have L5 := ready_nil (i := 5) hr rfl hs (by simp)
        have L6 := ready_nil (i := 6) hr rfl hs (by simp)
        have L7 := ready_nil (i := 7) hr rfl hs (by simp at L5 L6 ⊢; exact ⟨Or.inr L5, Or.inr L6⟩)
        have L8 := ready_nil (i := 8) hr rfl hs (by simp at L7 ⊢; exact Or.inr L7)
        have L9 := ready_nil (i := 9) hr rfl hs (by simp at L8 ⊢; exact Or.inr L8)
        have L10 := ready_nil (i := 10) hr rfl hs (by simp at L4 L9 ⊢; exact ⟨Or.inr L4, Or.inr L9⟩)
        have L11 := ready_nil (i := 11) hr rfl hs (by simp at L10 ⊢; exact Or.inr L10)
        have e0 := h0 L0
        subst e0
        have e1 := h1 L1
        subst e1
        have e2 := h2 L2
        subst e2
        have e3 := h3 L3
        subst e3
        obtain ⟨v4, e4, hv4⟩ := h4 L4
        subst e4
        have e5 := h5 L5
        subst e5
        have e6 := h6 L6
        subst e6
        have e7 := h7 L7
        subst e7
        have e8 := h8 L8
        subst e8
        obtain ⟨v9, e9, hv9⟩ := h9 L9
        subst e9
        have e10 := h10 L10
        subst e10
        have e11 := h11 L11
        subst e11
        clear h0 L0 h1 L1 h2 L2 h3 L3 h4 L4 h5 L5 h6 L6 h7 L7 h8 L8 h9 L9 h10 L10 h11 L11
        show (Exit.then _ _) _ _ _
        go_wp2
        go_roundw
        case rel => exact ⟨k + 1, by omega, by go_num, by obtain ⟨nq, rfl⟩ := hq.out; exact ⟨_, World.drewN_drewN _ _ _⟩⟩
        case measure => simp [intOf]; omega
      case step =>
        rintro listed a w2 i ⟨hs, ⟨m, rfl⟩, t17, t18, t19, t20, t21, t22, t23, t24, t25, t26, t27, t28, rfl, h0, h1, h2, h3, h4, h5, h6, h7, h8, h9, h10, h11⟩ hi
        have hlt : i < 12 := (ready_tells_lt hi)
        rcases i with _ | _ | _ | _ | _ | _ | _ | _ | _ | _ | _ | _ | i
        · -- operation 0
          obtain ⟨_, hrd⟩ := ready_tells hi rfl
          refine wpOp_via fun K hK => ?_
          simp only [wpOp]
          refine Or.inl ?_
          go_simp
          refine hK _ _ ?_
          exact ⟨by simp [hs], ⟨m, rfl⟩, .slice (some ⟨b1, o1, none⟩) n c1, _, _, _, _, _, _, _, _, _, _, _, rfl, (fun _ => rfl), (fun h => h1 (by rwa [getD_set_ne (by decide)] at h)), (fun h => h2 (by rwa [getD_set_ne (by decide)] at h)), (fun h => h3 (by rwa [getD_set_ne (by decide)] at h)), (fun h => h4 (by rwa [getD_set_ne (by decide)] at h)), (fun h => h5 (by rwa [getD_set_ne (by decide)] at h)), (fun h => h6 (by rwa [getD_set_ne (by decide)] at h)), (fun h => h7 (by rwa [getD_set_ne (by decide)] at h)), (fun h => h8 (by rwa [getD_set_ne (by decide)] at h)), (fun h => h9 (by rwa [getD_set_ne (by decide)] at h)), (fun h => h10 (by rwa [getD_set_ne (by decide)] at h)), (fun h => h11 (by rwa [getD_set_ne (by decide)] at h))⟩
        · -- operation 1
          obtain ⟨_, hrd⟩ := ready_tells hi rfl
          refine wpOp_via fun K hK => ?_
          simp only [wpOp]
          refine Or.inl ?_
          go_simp
          refine hK _ _ ?_
          exact ⟨by simp [hs], ⟨m, rfl⟩, _, .int .i64 k, _, _, _, _, _, _, _, _, _, _, rfl, (fun h => h0 (by rwa [getD_set_ne (by decide)] at h)), (fun _ => rfl), (fun h => h2 (by rwa [getD_set_ne (by decide)] at h)), (fun h => h3 (by rwa [getD_set_ne (by decide)] at h)), (fun h => h4 (by rwa [getD_set_ne (by decide)] at h)), (fun h => h5 (by rwa [getD_set_ne (by decide)] at h)), (fun h => h6 (by rwa [getD_set_ne (by decide)] at h)), (fun h => h7 (by rwa [getD_set_ne (by decide)] at h)), (fun h => h8 (by rwa [getD_set_ne (by decide)] at h)), (fun h => h9 (by rwa [getD_set_ne (by decide)] at h)), (fun h => h10 (by rwa [getD_set_ne (by decide)] at h)), (fun h => h11 (by rwa [getD_set_ne (by decide)] at h))⟩
        · -- operation 2
          obtain ⟨_, hrd⟩ := ready_tells hi rfl
          have d0 := hrd { on := 0, ground := .data } (by simp) rfl
          have d1 := hrd { on := 1, ground := .data } (by simp) rfl
          have e0 := h0 d0
          subst e0
          have e1 := h1 d1
          subst e1
          refine wpOp_via fun K hK => ?_
          simp only [wpOp]
          refine Or.inl ?_
          go_simp
          refine hK _ _ ?_
          exact ⟨by simp [hs], ⟨m, rfl⟩, _, _, .pointer (some ⟨b1, o1 + k, none⟩), _, _, _, _, _, _, _, _, _, rfl, (fun h => h0 (by rwa [getD_set_ne (by decide)] at h)), (fun h => h1 (by rwa [getD_set_ne (by decide)] at h)), (fun _ => rfl), (fun h => h3 (by rwa [getD_set_ne (by decide)] at h)), (fun h => h4 (by rwa [getD_set_ne (by decide)] at h)), (fun h => h5 (by rwa [getD_set_ne (by decide)] at h)), (fun h => h6 (by rwa [getD_set_ne (by decide)] at h)), (fun h => h7 (by rwa [getD_set_ne (by decide)] at h)), (fun h => h8 (by rwa [getD_set_ne (by decide)] at h)), (fun h => h9 (by rwa [getD_set_ne (by decide)] at h)), (fun h => h10 (by rwa [getD_set_ne (by decide)] at h)), (fun h => h11 (by rwa [getD_set_ne (by decide)] at h))⟩
        · -- operation 3
          obtain ⟨_, hrd⟩ := ready_tells hi rfl
          have d2 := hrd { on := 2, ground := .data } (by simp) rfl
          have e2 := h2 d2
          subst e2
          refine wpOp_via fun K hK => ?_
          simp only [wpOp]
          refine Or.inl ?_
          go_simp
          refine hK _ _ ?_
          exact ⟨by simp [hs], ⟨m, rfl⟩, _, _, _, .float .f32 (xs k), _, _, _, _, _, _, _, _, rfl, (fun h => h0 (by rwa [getD_set_ne (by decide)] at h)), (fun h => h1 (by rwa [getD_set_ne (by decide)] at h)), (fun h => h2 (by rwa [getD_set_ne (by decide)] at h)), (fun _ => rfl), (fun h => h4 (by rwa [getD_set_ne (by decide)] at h)), (fun h => h5 (by rwa [getD_set_ne (by decide)] at h)), (fun h => h6 (by rwa [getD_set_ne (by decide)] at h)), (fun h => h7 (by rwa [getD_set_ne (by decide)] at h)), (fun h => h8 (by rwa [getD_set_ne (by decide)] at h)), (fun h => h9 (by rwa [getD_set_ne (by decide)] at h)), (fun h => h10 (by rwa [getD_set_ne (by decide)] at h)), (fun h => h11 (by rwa [getD_set_ne (by decide)] at h))⟩
        · -- operation 4
          obtain ⟨_, hrd⟩ := ready_tells hi rfl
          have d3 := hrd { on := 3, ground := .data } (by simp) rfl
          have e3 := h3 d3
          subst e3
          obtain ⟨v, m2, hrun, hwide⟩ := run_wide HW.out (wr.drewN m)
          rw [World.drewN_drewN] at hrun
          have HV := Lib.hid hwide
          clear hwide
          refine wpOp_via fun K hK => ?_
          simp only [wpOp]
          refine Or.inl ?_
          go_simp
          refine hK _ _ ?_
          exact ⟨by simp [hs], ⟨m + m2, rfl⟩, _, _, _, _, .float .f64 v, _, _, _, _, _, _, _, rfl, (fun h => h0 (by rwa [getD_set_ne (by decide)] at h)), (fun h => h1 (by rwa [getD_set_ne (by decide)] at h)), (fun h => h2 (by rwa [getD_set_ne (by decide)] at h)), (fun h => h3 (by rwa [getD_set_ne (by decide)] at h)), (fun _ => ⟨v, rfl, HV.out⟩), (fun h => h5 (by rwa [getD_set_ne (by decide)] at h)), (fun h => h6 (by rwa [getD_set_ne (by decide)] at h)), (fun h => h7 (by rwa [getD_set_ne (by decide)] at h)), (fun h => h8 (by rwa [getD_set_ne (by decide)] at h)), (fun h => h9 (by rwa [getD_set_ne (by decide)] at h)), (fun h => h10 (by rwa [getD_set_ne (by decide)] at h)), (fun h => h11 (by rwa [getD_set_ne (by decide)] at h))⟩
        · -- operation 5
          obtain ⟨_, hrd⟩ := ready_tells hi rfl
          refine wpOp_via fun K hK => ?_
          simp only [wpOp]
          refine Or.inl ?_
          go_simp
          refine hK _ _ ?_
          exact ⟨by simp [hs], ⟨m, rfl⟩, _, _, _, _, _, .slice (some ⟨b2, o2, none⟩) n c2, _, _, _, _, _, _, rfl, (fun h => h0 (by rwa [getD_set_ne (by decide)] at h)), (fun h => h1 (by rwa [getD_set_ne (by decide)] at h)), (fun h => h2 (by rwa [getD_set_ne (by decide)] at h)), (fun h => h3 (by rwa [getD_set_ne (by decide)] at h)), (fun h => h4 (by rwa [getD_set_ne (by decide)] at h)), (fun _ => rfl), (fun h => h6 (by rwa [getD_set_ne (by decide)] at h)), (fun h => h7 (by rwa [getD_set_ne (by decide)] at h)), (fun h => h8 (by rwa [getD_set_ne (by decide)] at h)), (fun h => h9 (by rwa [getD_set_ne (by decide)] at h)), (fun h => h10 (by rwa [getD_set_ne (by decide)] at h)), (fun h => h11 (by rwa [getD_set_ne (by decide)] at h))⟩
        · -- operation 6
          obtain ⟨_, hrd⟩ := ready_tells hi rfl
          refine wpOp_via fun K hK => ?_
          simp only [wpOp]
          refine Or.inl ?_
          go_simp
          refine hK _ _ ?_
          exact ⟨by simp [hs], ⟨m, rfl⟩, _, _, _, _, _, _, .int .i64 k, _, _, _, _, _, rfl, (fun h => h0 (by rwa [getD_set_ne (by decide)] at h)), (fun h => h1 (by rwa [getD_set_ne (by decide)] at h)), (fun h => h2 (by rwa [getD_set_ne (by decide)] at h)), (fun h => h3 (by rwa [getD_set_ne (by decide)] at h)), (fun h => h4 (by rwa [getD_set_ne (by decide)] at h)), (fun h => h5 (by rwa [getD_set_ne (by decide)] at h)), (fun _ => rfl), (fun h => h7 (by rwa [getD_set_ne (by decide)] at h)), (fun h => h8 (by rwa [getD_set_ne (by decide)] at h)), (fun h => h9 (by rwa [getD_set_ne (by decide)] at h)), (fun h => h10 (by rwa [getD_set_ne (by decide)] at h)), (fun h => h11 (by rwa [getD_set_ne (by decide)] at h))⟩
        · -- operation 7
          obtain ⟨_, hrd⟩ := ready_tells hi rfl
          have d5 := hrd { on := 5, ground := .data } (by simp) rfl
          have d6 := hrd { on := 6, ground := .data } (by simp) rfl
          have e5 := h5 d5
          subst e5
          have e6 := h6 d6
          subst e6
          refine wpOp_via fun K hK => ?_
          simp only [wpOp]
          refine Or.inl ?_
          go_simp
          refine hK _ _ ?_
          exact ⟨by simp [hs], ⟨m, rfl⟩, _, _, _, _, _, _, _, .pointer (some ⟨b2, o2 + k, none⟩), _, _, _, _, rfl, (fun h => h0 (by rwa [getD_set_ne (by decide)] at h)), (fun h => h1 (by rwa [getD_set_ne (by decide)] at h)), (fun h => h2 (by rwa [getD_set_ne (by decide)] at h)), (fun h => h3 (by rwa [getD_set_ne (by decide)] at h)), (fun h => h4 (by rwa [getD_set_ne (by decide)] at h)), (fun h => h5 (by rwa [getD_set_ne (by decide)] at h)), (fun h => h6 (by rwa [getD_set_ne (by decide)] at h)), (fun _ => rfl), (fun h => h8 (by rwa [getD_set_ne (by decide)] at h)), (fun h => h9 (by rwa [getD_set_ne (by decide)] at h)), (fun h => h10 (by rwa [getD_set_ne (by decide)] at h)), (fun h => h11 (by rwa [getD_set_ne (by decide)] at h))⟩
        · -- operation 8
          obtain ⟨_, hrd⟩ := ready_tells hi rfl
          have d7 := hrd { on := 7, ground := .data } (by simp) rfl
          have e7 := h7 d7
          subst e7
          refine wpOp_via fun K hK => ?_
          simp only [wpOp]
          refine Or.inl ?_
          go_simp
          refine hK _ _ ?_
          exact ⟨by simp [hs], ⟨m, rfl⟩, _, _, _, _, _, _, _, _, .float .f32 (xs k), _, _, _, rfl, (fun h => h0 (by rwa [getD_set_ne (by decide)] at h)), (fun h => h1 (by rwa [getD_set_ne (by decide)] at h)), (fun h => h2 (by rwa [getD_set_ne (by decide)] at h)), (fun h => h3 (by rwa [getD_set_ne (by decide)] at h)), (fun h => h4 (by rwa [getD_set_ne (by decide)] at h)), (fun h => h5 (by rwa [getD_set_ne (by decide)] at h)), (fun h => h6 (by rwa [getD_set_ne (by decide)] at h)), (fun h => h7 (by rwa [getD_set_ne (by decide)] at h)), (fun _ => rfl), (fun h => h9 (by rwa [getD_set_ne (by decide)] at h)), (fun h => h10 (by rwa [getD_set_ne (by decide)] at h)), (fun h => h11 (by rwa [getD_set_ne (by decide)] at h))⟩
        · -- operation 9
          obtain ⟨_, hrd⟩ := ready_tells hi rfl
          have d8 := hrd { on := 8, ground := .data } (by simp) rfl
          have e8 := h8 d8
          subst e8
          obtain ⟨v, m2, hrun, hwide⟩ := run_wide HW.out (wr.drewN m)
          rw [World.drewN_drewN] at hrun
          have HV := Lib.hid hwide
          clear hwide
          refine wpOp_via fun K hK => ?_
          simp only [wpOp]
          refine Or.inl ?_
          go_simp
          refine hK _ _ ?_
          exact ⟨by simp [hs], ⟨m + m2, rfl⟩, _, _, _, _, _, _, _, _, _, .float .f64 v, _, _, rfl, (fun h => h0 (by rwa [getD_set_ne (by decide)] at h)), (fun h => h1 (by rwa [getD_set_ne (by decide)] at h)), (fun h => h2 (by rwa [getD_set_ne (by decide)] at h)), (fun h => h3 (by rwa [getD_set_ne (by decide)] at h)), (fun h => h4 (by rwa [getD_set_ne (by decide)] at h)), (fun h => h5 (by rwa [getD_set_ne (by decide)] at h)), (fun h => h6 (by rwa [getD_set_ne (by decide)] at h)), (fun h => h7 (by rwa [getD_set_ne (by decide)] at h)), (fun h => h8 (by rwa [getD_set_ne (by decide)] at h)), (fun _ => ⟨v, rfl, HV.out⟩), (fun h => h10 (by rwa [getD_set_ne (by decide)] at h)), (fun h => h11 (by rwa [getD_set_ne (by decide)] at h))⟩
        · -- operation 10
          obtain ⟨_, hrd⟩ := ready_tells hi rfl
          have d4 := hrd { on := 4, ground := .data } (by simp) rfl
          have d9 := hrd { on := 9, ground := .data } (by simp) rfl
          obtain ⟨v4, e4, hv4⟩ := h4 d4
          subst e4
          obtain ⟨v9, e9, hv9⟩ := h9 d9
          subst e9
          have HV4 := Lib.hid hv4
          have HV9 := Lib.hid hv9
          clear hv4 hv9
          refine wpOp_via fun K hK => ?_
          simp only [wpOp]
          refine Or.inl ?_
          go_simp
          refine (same_wide HV4.out HV9.out _).mono ?_
          rintro e w' ⟨rfl, m2, rfl⟩
          refine hK _ _ ?_
          exact ⟨by simp [hs], ⟨m + m2, World.drewN_drewN _ _ _⟩, _, _, _, _, _, _, _, _, _, _, .bool true, _, rfl, (fun h => h0 (by rwa [getD_set_ne (by decide)] at h)), (fun h => h1 (by rwa [getD_set_ne (by decide)] at h)), (fun h => h2 (by rwa [getD_set_ne (by decide)] at h)), (fun h => h3 (by rwa [getD_set_ne (by decide)] at h)), (fun _ => ⟨v4, rfl, HV4.out⟩), (fun h => h5 (by rwa [getD_set_ne (by decide)] at h)), (fun h => h6 (by rwa [getD_set_ne (by decide)] at h)), (fun h => h7 (by rwa [getD_set_ne (by decide)] at h)), (fun h => h8 (by rwa [getD_set_ne (by decide)] at h)), (fun _ => ⟨v9, rfl, HV9.out⟩), (fun _ => rfl), (fun h => h11 (by rwa [getD_set_ne (by decide)] at h))⟩
        · -- operation 11
          obtain ⟨_, hrd⟩ := ready_tells hi rfl
          have d10 := hrd { on := 10, ground := .data } (by simp) rfl
          have e10 := h10 d10
          subst e10
          refine wpOp_via fun K hK => ?_
          simp only [wpOp]
          refine Or.inl ?_
          go_simp
          refine hK _ _ ?_
          exact ⟨by simp [hs], ⟨m, rfl⟩, _, _, _, _, _, _, _, _, _, _, _, .bool false, rfl, (fun h => h0 (by rwa [getD_set_ne (by decide)] at h)), (fun h => h1 (by rwa [getD_set_ne (by decide)] at h)), (fun h => h2 (by rwa [getD_set_ne (by decide)] at h)), (fun h => h3 (by rwa [getD_set_ne (by decide)] at h)), (fun h => h4 (by rwa [getD_set_ne (by decide)] at h)), (fun h => h5 (by rwa [getD_set_ne (by decide)] at h)), (fun h => h6 (by rwa [getD_set_ne (by decide)] at h)), (fun h => h7 (by rwa [getD_set_ne (by decide)] at h)), (fun h => h8 (by rwa [getD_set_ne (by decide)] at h)), (fun h => h9 (by rwa [getD_set_ne (by decide)] at h)), (fun h => h10 (by rwa [getD_set_ne (by decide)] at h)), (fun _ => rfl)⟩
        · omega
    · have hkn : k = n := by omega
      go_wp2
      go_ret
      exact ⟨rfl, hq.out⟩
end Go.Proofs.Ytdcfailgakofeaa
