/-
  The statement FnExactScanLines: the walk of the law.
-/
import Derived.Test.YtdcfailgakofeaaWk12
import Derived.Test.YtdcfailgakofeaaWk8
namespace Go.Proofs.Ytdcfailgakofeaa
open Go.RowKit Go.Flt

def cxAt (ys : List (Nat × Nat)) (i : Nat) : Value := .complex .f32 (ys.getD i (0, 0)).1 (ys.getD i (0, 0)).2

theorem cx_range (ys : List (Nat × Nat)) : ys.map cx = (List.range ys.length).map (cxAt ys) := by
  apply List.ext_getElem
  · simp
  · intro i h1 h2
    simp at h1
    simp [cxAt, cx, h1]

/-- What ScanLines hands back, in full. -/
def LinedAt (w : World) (ok : Bool) (ys : List (Nat × Nat)) (e : Ending) (w' : World) : Prop :=
  ∃ a c, e = .returned (.tuple #[.slice a ys.length c, .bool ok]) ∧ w'.ownsRow w.heap.size 30 1 (.slice a ys.length c) ys.length ((List.range ys.length).map (cxAt ys)) ∧ Below w.heap.size w w'

theorem Lined.at {w : World} {ok : Bool} {ys : List (Nat × Nat)} {e : Ending} {w' : World} (h : Lined w ok ys e w') : LinedAt w ok ys e w' := by
  obtain ⟨v, rfl, h2, h3⟩ := h
  rw [cx_range] at h2
  obtain ⟨a, c, rfl, _⟩ := own_row h2
  exact ⟨a, c, rfl, h2, h3⟩

/-- What the copy hands back, in full. -/
def CopiedAt (w : World) (n : Nat) (f : Nat → Value) (e : Ending) (w' : World) : Prop :=
  ∃ a c, e = .returned (.slice a n c) ∧ w'.ownsRow w.heap.size 27 1 (.slice a n c) n ((List.range n).map f) ∧ Below w.heap.size w w'

theorem Copied.at {w : World} {n : Nat} {f : Nat → Value} {e : Ending} {w' : World} (h : Copied w n f e w') : CopiedAt w n f e w' := by
  obtain ⟨v, rfl, h2, h3⟩ := h
  obtain ⟨a, c, rfl, _⟩ := own_row h2
  exact ⟨a, c, rfl, h2, h3⟩

theorem Row.below {w w' : World} {a : Option Addr} {n : Nat} {f : Nat → Value} (h : Row w a n f) (hb : Below w.heap.size w w') : Row w' a n f := by
  intro i hi
  obtain ⟨b, o, h1, h2⟩ := h i hi
  exact ⟨b, o, h1, (hb.cell (World.block_lt_of_cell? w _ h2)).trans h2⟩

theorem own_at {w : World} {base : Nat} {e : TypeId} {a : Option Addr} {n c : Nat} {f : Nat → Value} (h : w.ownsRow base e 1 (.slice a n c) n ((List.range n).map f)) : Row w a n f := by
  obtain ⟨a', c', h1, h2⟩ := own_row h
  injection h1 with h1 _ _
  subst h1; exact h2

theorem own_types {w : World} {b1 b2 : Nat} {e1 e2 : TypeId} {v1 v2 : Value} {n1 n2 : Nat} {x1 x2 : List Value} (h1 : w.ownsRow b1 e1 1 v1 n1 x1) (h2 : w.ownsRow b2 e2 1 v2 n2 x2) (hne : e1 ≠ e2) : v1.ownBlock = none ∨ v1.ownBlock ≠ v2.ownBlock := by
  rcases h1.2 with ⟨r1, _⟩ | ⟨g1, cap1, cur1, r1, _, s1, _⟩
  · left; rw [r1]; rfl
  · right
    rcases h2.2 with ⟨r2, _⟩ | ⟨g2, cap2, cur2, r2, _, s2, _⟩
    · rw [r1, r2]; intro h; cases h
    · rw [r1, r2]
      intro h
      have hg : g1 = g2 := by injection h
      subst hg
      rw [s1] at s2
      injection s2 with s2
      injection s2 with _ s2 _
      exact hne s2

theorem own_places {w : World} {b1 b2 : Nat} {e1 e2 : TypeId} {v1 v2 : Value} {n1 n2 : Nat} {x1 x2 : List Value} (h1 : w.ownsRow b1 e1 1 v1 n1 x1) (h2 : w.ownsRow b2 e2 1 v2 n2 x2) (hlt : ∀ k, v1.ownBlock = some k → k < b2) : v1.ownBlock = none ∨ v1.ownBlock ≠ v2.ownBlock := by
  cases hv : v1.ownBlock with
  | none => exact Or.inl rfl
  | some k =>
    right
    intro h
    have := (h2.lt k h.symm).1
    have := hlt k hv
    omega

theorem scan_fin (xs : Nat → Nat) (n : Nat) : ∀ i, i < (scanOut xs n).length → fin Ieee.single ((scanOut xs n).getD i (0, 0)).1 ∧ fin Ieee.single ((scanOut xs n).getD i (0, 0)).2 := by
  intro i hi
  unfold scanOut at hi ⊢
  cases hok : scanOk xs n with
  | false => rw [hok] at hi; simp at hi
  | true =>
    rw [hok, if_pos rfl] at hi
    rw [if_pos rfl]
    unfold scanOk at hok
    rw [Bool.and_eq_true] at hok
    have hg := hok.2
    unfold scanGood at hg
    rw [List.all_eq_true] at hg
    have hin : i < n / 2 + 1 := by simpa [scanList] using hi
    have h1 := hg i (List.mem_range.2 hin)
    have e : (scanList xs n).getD i (0, 0) = ((lineAcc xs n i n).1.getD 0, (lineAcc xs n i n).2.getD 0) := by simp [scanList, hin]
    rw [e]
    unfold finO at h1
    split at h1
    · rename_i p q a b h2 h3
      rw [Bool.and_eq_true] at h1
      rw [h2, h3]
      exact ⟨finB_iff.1 h1.1, finB_iff.1 h1.2⟩
    · cases h1

theorem scan_len (xs : Nat → Nat) (n : Nat) : (scanOut xs n).length ≤ 33 := by
  unfold scanOut
  cases hok : scanOk xs n with
  | false => simp
  | true =>
    unfold scanOk at hok
    rw [Bool.and_eq_true, Bool.and_eq_true, decide_eq_true_iff] at hok
    simp [scanList]; omega

theorem eqLines (ys : List (Nat × Nat)) (hl : ys.length ≤ 33) (hf : ∀ i, i < ys.length → fin Ieee.single (ys.getD i (0, 0)).1 ∧ fin Ieee.single (ys.getD i (0, 0)).2) {w : World} {b1 b2 : Nat} {a1 a2 : Option Addr} {c1 c2 : Nat} (h1 : w.ownsRow b1 30 1 (.slice a1 ys.length c1) ys.length ((List.range ys.length).map (cxAt ys))) (h2 : w.ownsRow b2 30 1 (.slice a2 ys.length c2) ys.length ((List.range ys.length).map (cxAt ys))) :
    Calls Try.prog 29 #[.slice a1 ys.length c1, .slice a2 ys.length c2] w (Quiet w (.bool true)) :=
  eqC_any a1 a2 ys.length c1 c2 _ _ w (by omega) (own_at h1) (own_at h2) hf

theorem own_drewN {w : World} {base : Nat} {e : TypeId} {v : Value} {n m : Nat} {x : List Value} (h : w.ownsRow base e 1 v n x) : (w.drewN m).ownsRow base e 1 v n x := h

set_option maxHeartbeats 3200000 in
set_option maxRecDepth 100000 in
theorem law_scan (a : Option Addr) (n cap : Nat) (xs : Nat → Nat) (w : World) (hn : n ≤ 1048576) (hr : Row w a n fun i => .float .f32 (xs i)) (hx : ∀ i, i < n → W32 (xs i)) :
    Calls Try.prog 5 #[.slice a n cap] w fun e w' => e = .returned (.bool true) ∧ Below w.heap.size w w' := by
  have HR := Lib.hid hr
  have HX := Lib.hid hx
  obtain ⟨ys, hys⟩ : ∃ ys, scanOut xs n = ys := ⟨_, rfl⟩
  obtain ⟨ok, hok⟩ : ∃ ok, scanOk xs n = ok := ⟨_, rfl⟩
  have hl : ys.length ≤ 33 := hys ▸ scan_len xs n
  have hf : ∀ i, i < ys.length → fin Ieee.single (ys.getD i (0, 0)).1 ∧ fin Ieee.single (ys.getD i (0, 0)).2 := hys ▸ scan_fin xs n
  have HF := Lib.hid hf
  have COPY : Hid (∀ w', Below w.heap.size w w' → Calls Try.prog 27 #[.slice a n cap] w' (CopiedAt w' n fun i => .float .f32 (xs i))) := fun w' hb => (copy32_any a n cap xs w' hn (hr.below hb)).mono fun _ _ h => h.at
  have SPEC : Hid (∀ w' a' c', Row w' a' n (fun i => .float .f32 (xs i)) → Calls Try.prog 26 #[.slice a' n c'] w' (LinedAt w' ok ys)) := fun w' a' c' h => by
    have := spec_scan_any a' n c' xs w' hn h hx
    rw [hok, hys] at this
    exact this.mono fun _ _ h => h.at
  have IMPL : Hid (∀ w' a' c', Row w' a' n (fun i => .float .f32 (xs i)) → Calls Try.prog 28 #[.slice a' n c'] w' (LinedAt w' ok ys)) := fun w' a' c' h => by
    have := scanLines_any a' n c' xs w' hn h hx
    rw [hok, hys] at this
    exact this.mono fun _ _ h => h.at
  have hnot : ∀ (b : Bool) (w : World), (Op.unary .not (.bool b)).run Try.prog w = .ok (.bool (!b)) w := fun _ _ => rfl
  clear hr hx hys hok hf
  go_enter Try.func5, Try.ntmps5
  go_wp2_with fail
  refine (COPY.out _ (Below.refl _ _)).mono ?_
  rintro e w1 ⟨a1, c1, rfl, o1, b1⟩
  have O1 := Lib.hid o1
  have B1 := Lib.hid b1
  clear o1 b1
  go_wp2_with fail
  refine (SPEC.out _ _ _ (own_at O1.out)).mono ?_
  rintro e w2 ⟨a2, c2, rfl, o2, b2⟩
  have O2 := Lib.hid o2
  have B2 := Lib.hid (B1.out.trans (b2.mono B1.out.size))
  clear o2 b2 O1 B1
  have HS := Lib.hid O2.out.lt
  go_wp2_with fail
  refine (COPY.out _ B2.out).mono ?_
  rintro e w3 ⟨a3, c3, rfl, o3, b3⟩
  have O3 := Lib.hid o3
  have S3 := Lib.hid (owns_below O2.out b3)
  have B3 := Lib.hid (B2.out.trans (b3.mono B2.out.size))
  have G3 := Lib.hid b3.size
  have G2 := Lib.hid B2.out.size
  clear o3 b3 O2 B2
  go_wp2_with fail
  refine (IMPL.out _ _ _ (own_at O3.out)).mono ?_
  rintro e w4 ⟨a4, c4, rfl, o4, b4⟩
  have L4 := Lib.hid o4
  have S4 := Lib.hid (owns_below S3.out b4)
  have O4 := Lib.hid (owns_below O3.out b4)
  have B4 := Lib.hid (B3.out.trans (b4.mono B3.out.size))
  clear o4 b4 S3 O3 B3
  go_wp2_with fail
  refine (eqLines ys hl HF.out L4.out S4.out).mono ?_
  rintro e w5 ⟨rfl, q, rfl⟩
  have L5 := Lib.hid (own_drewN (m := q) L4.out)
  have S5 := Lib.hid (own_drewN (m := q) S4.out)
  have O5 := Lib.hid (own_drewN (m := q) O4.out)
  have B5 := Lib.hid (below_drewN B4.out q)
  clear L4 S4 O4 B4
  generalize w4.drewN q = w5 at *
  go_wp2_with fail
  refine (COPY.out _ B5.out).mono ?_
  rintro e w6 ⟨a6, c6, rfl, o6, b6⟩
  have L6 := Lib.hid (owns_below L5.out b6)
  have S6 := Lib.hid (owns_below S5.out b6)
  have O6 := Lib.hid (owns_below O5.out b6)
  have B6 := Lib.hid (B5.out.trans (b6.mono B5.out.size))
  have N6 := Lib.hid o6
  clear o6 b6 L5 S5 O5 B5
  go_wp2_with fail
  refine (eqF_any a3 a6 n c3 c6 xs w6 hn (own_at O6.out) (own_at N6.out) HX.out).mono ?_
  rintro e w7 ⟨rfl, q2, rfl⟩
  have L7 := Lib.hid (own_drewN (m := q2) L6.out)
  have S7 := Lib.hid (own_drewN (m := q2) S6.out)
  have O7 := Lib.hid (own_drewN (m := q2) O6.out)
  have B7 := Lib.hid (below_drewN B6.out q2)
  clear L6 S6 O6 B6 N6
  generalize w6.drewN q2 = w7 at *
  go_wp2_with fail
  refine (mark32_any w2.heap.size n 1 _ _ w7 hn (by omega) O7.out).mono ?_
  rintro e w8 ⟨rfl, _, g8⟩
  have L8 := Lib.hid (L7.out.kept g8 (own_types L7.out O7.out (by decide)))
  have S8 := Lib.hid (S7.out.kept g8 (own_types S7.out O7.out (by decide)))
  have B8 := Lib.hid (B7.out.grown g8 B7.out.size (fun k hk => Nat.le_trans G2.out (O7.out.lt k hk).1))
  clear g8 L7 S7 O7 B7
  go_wp2_with fail
  refine (eqLines ys hl HF.out L8.out S8.out).mono ?_
  rintro e w9 ⟨rfl, q3, rfl⟩
  have L9 := Lib.hid (own_drewN (m := q3) L8.out)
  have S9 := Lib.hid (own_drewN (m := q3) S8.out)
  have B9 := Lib.hid (below_drewN B8.out q3)
  clear L8 S8 B8
  generalize w8.drewN q3 = w9 at *
  go_wp2_with fail
  refine (markC_any w3.heap.size ys.length 1 _ _ w9 (by omega) (by omega) L9.out).mono ?_
  rintro e w10 ⟨rfl, l10, g10⟩
  have L10 := Lib.hid l10
  have S10 := Lib.hid (S9.out.kept g10 (own_places S9.out L9.out (fun k hk => Nat.lt_of_lt_of_le (HS.out k hk).2 G3.out)))
  have B10 := Lib.hid (B9.out.grown g10 B9.out.size (fun k hk => Nat.le_trans G2.out (Nat.le_trans G3.out (L9.out.lt k hk).1)))
  clear l10 g10 L9 S9 B9
  go_wp2_with fail
  refine (held_any a4 ys.length c4 1 w10 (by omega) (by omega) (own_at L10.out)).mono ?_
  rintro e w10' ⟨rfl, rfl⟩
  go_wp2_with fail
  refine (COPY.out _ B10.out).mono ?_
  rintro e w11 ⟨a11, c11, rfl, o11, b11⟩
  have L11 := Lib.hid (owns_below L10.out b11)
  have S11 := Lib.hid (owns_below S10.out b11)
  have B11 := Lib.hid (B10.out.trans (b11.mono B10.out.size))
  have N11 := Lib.hid o11
  clear o11 b11 L10 S10 B10
  go_wp2_with fail
  refine (IMPL.out _ _ _ (own_at N11.out)).mono ?_
  rintro e w12 ⟨a12, c12, rfl, o12, b12⟩
  have L12 := Lib.hid (owns_below L11.out b12)
  have S12 := Lib.hid (owns_below S11.out b12)
  have B12 := Lib.hid (B11.out.trans (b12.mono B11.out.size))
  have N12 := Lib.hid o12
  clear o12 b12 L11 S11 B11 N11
  go_wp2_with fail
  refine (eqLines ys hl HF.out N12.out S12.out).mono ?_
  rintro e w13 ⟨rfl, q4, rfl⟩
  have L13 := Lib.hid (own_drewN (m := q4) L12.out)
  have B13 := Lib.hid (below_drewN B12.out q4)
  clear L12 S12 B12 N12
  generalize w12.drewN q4 = w13 at *
  go_wp2_with fail
  refine (held_any a4 ys.length c4 1 w13 (by omega) (by omega) (own_at L13.out)).mono ?_
  rintro e w13' ⟨rfl, rfl⟩
  go_wp2
  go_ret
  exact ⟨rfl, B13.out⟩

set_option maxHeartbeats 1600000 in
set_option maxRecDepth 100000 in
theorem law_scan_long (a : Option Addr) (n cap : Nat) (w : World) (hn : 1048576 < n) :
    Calls Try.prog 5 #[.slice a n cap] w fun e w' => e = .returned (.bool true) ∧ Below w.heap.size w w' := by
  go_enter Try.func5, Try.ntmps5
  go_wp2
  go_ret
  exact ⟨rfl, Below.refl _ _⟩
end Go.Proofs.Ytdcfailgakofeaa
