/-
  Plain facts for the walk of the law on marks.
-/
import Derived.Test.YtdcfailgakofeaaMkNum5
import Derived.Test.YtdcfailgakofeaaWp6
import Derived.Sort.AtCall
namespace Go.Proofs.Ytdcfailgakofeaa
open Go.RowKit Go.Flt

theorem qa_good : ∀ k, k < 16 → (qa k < 2 * Ieee.single.signWeight ∧ qa k % Ieee.single.signWeight < Ieee.single.infRung) ∧ fval Ieee.single (qa k) = ((k + 1 : Nat) : Int) * (1 / 4) := by decide +kernel
theorem lst_qa {ks : Nat → Nat} {n : Nat} (h : ∀ i, i < n → ks i < 16) : Lst (fun i => qa (ks i)) n :=
  ⟨fun i hi => ⟨ks i + 1, by omega, by have := h i hi; omega, ⟨(qa_good _ (h i hi)).1, (qa_good _ (h i hi)).2⟩⟩⟩

/-- The bar. -/
def barW (j : Nat) : Nat := (floatBits .quo .f32 (FloatKind.f32.nearest (j : Int)) 1082130432).getD 0
theorem barW_told : ∀ j : Nat, j < 8 → floatBits .quo .f32 (FloatKind.f32.nearest (j : Int)) 1082130432 = some (barW j) := by decide +kernel
theorem barW_good : ∀ j : Nat, j < 8 → (barW j < 2 * Ieee.single.signWeight ∧ barW j % Ieee.single.signWeight < Ieee.single.infRung) ∧ 0 ≤ fval Ieee.single (barW j) := by decide +kernel

theorem marks_row {w : World} {base : Nat} {a : Option Addr} {ms : List Nat} {c : Nat} (h : w.ownsRow base 2 1 (.slice a ms.length c) ms.length (ms.map fun (m : Nat) => Value.int .i64 m)) : Row w a ms.length (fun j => .int .i64 ((ms.getD j 0 : Nat) : Int)) := by
  have e : (ms.map fun (m : Nat) => Value.int .i64 m) = (List.range ms.length).map (fun j => Value.int .i64 ((ms.getD j 0 : Nat) : Int)) := by
    apply List.ext_getElem
    · simp
    · intro j h1 h2
      simp at h1
      simp [h1]
  rw [e] at h
  exact own_at h

theorem same_eq {x : Nat} (h : fin Ieee.single x) : (FloatKind.f32.format.order x x != some .eq) = false := by
  have : (FloatKind.f32.format.order x x == some .eq) = true := by rw [eq32 h h]; exact decide_eq_true rfl
  unfold bne
  rw [this]; rfl

theorem seq_row {w : World} {a : Option Addr} {n : Nat} {f : Nat → Value} {i j b o : Nat} (h : Row w a n f) (hj : j < n) (ha : a = some ⟨b, o, none⟩) : w.cell? ⟨b, o + j, none⟩ = some (f j) := by
  obtain ⟨b', o', e, hc⟩ := h j hj
  rw [ha] at e
  injection e with e; injection e with e1 e2
  subst e1; subst e2
  exact hc

theorem _root_.Go.Flt.Lst.nn {xs : Nat → Nat} {n : Nat} (h : Lst xs n) (i : Nat) (hi : i < n) : 0 ≤ fval Ieee.single (xs i) := by have := h.lo hi; grind
theorem _root_.Go.Flt.Lst.pos {xs : Nat → Nat} {n : Nat} (h : Lst xs n) (i : Nat) (hi : i < n) : 0 < fval Ieee.single (xs i) := by have := h.lo hi; grind
theorem tot_told {tot K n : Nat} (q : Qr tot (K : Int)) (k1 : n ≤ K) (k2 : K ≤ 16 * n) (h3 : 3 ≤ n) (h14 : n ≤ 14) : 0 < fval Ieee.single tot ∧ ∃ r q p g T m, Noise tot r q p g T m := by
  have hk1 : (3 : Rat) ≤ ((K : Int) : Rat) := nat_le (show 3 ≤ K by omega)
  have hk2 : ((K : Int) : Rat) ≤ 224 := nat_le (show K ≤ 224 by omega)
  exact ⟨by rw [q.val]; grind, noise_good q.fin (by rw [q.val]; grind) (by rw [q.val]; grind)⟩
theorem by_bounds {j : Nat} (h : j < 4) : fin Ieee.single (byW j) ∧ fval Ieee.single (byW j) = (j + 1 : Nat) * (1 / 2) ∧ (1 / 2 : Rat) ≤ (j + 1 : Nat) * (1 / 2) ∧ ((j + 1 : Nat) * (1 / 2) : Rat) ≤ 2 := by
  refine ⟨(byW_good j h).1, (byW_good j h).2, ?_, ?_⟩
  · have : (1 : Rat) ≤ ((j + 1 : Nat) : Rat) := by exact_mod_cast (show 1 ≤ j + 1 by omega)
    grind
  · have : ((j + 1 : Nat) : Rat) ≤ ((4 : Nat) : Rat) := by exact_mod_cast (show j + 1 ≤ 4 by omega)
    have e : ((4 : Nat) : Rat) = 4 := rfl
    grind
theorem stitch_told {xs : Nat → Nat} {n over j : Nat} (h : Lst xs n) (ho1 : 1 ≤ over) (ho : over ≤ n) (h3 : over ≤ 3) (hj : j < 4) : ∃ s1 s2 q p g, StitchOk xs n over (byW j) s1 s2 q p g := by
  obtain ⟨a, b, c, d⟩ := by_bounds hj
  exact stitch_good h ho1 ho h3 a b c d
theorem tail_told {xs : Nat → Nat} {n over j : Nat} (h : Lst xs n) (ho : over ≤ n) (hj : j < 4) (i : Nat) (hi : i < over) : floatBits .mul .f32 (xs (n - over + i)) (byW j) = some (tailW xs n over (byW j) i) ∧ fin Ieee.single (tailW xs n over (byW j) i) := by
  obtain ⟨a, b, c, d⟩ := by_bounds hj
  obtain ⟨e, f, _⟩ := tail_good h ho a b c d hi
  exact ⟨e, f⟩
theorem tail_fin {xs : Nat → Nat} {n over j : Nat} (h : Lst xs n) (ho : over ≤ n) (hj : j < 4) (i : Nat) : fin Ieee.single (tailW xs n over (byW j) i) := by
  by_cases hi : i < over
  · exact (tail_told h ho hj i hi).2
  · unfold tailW; rw [if_neg hi]; exact three_val32.1

/-- What is told of the spread lists. -/
structure Spreads (xs : Nat → Nat) (n a b all allb : Nat) (sp : Nat → Nat) : Prop where
  k : Kern (ker3 a b) 3 all
  kb : Kern (fun i => ker3 a b (3 - 1 - i)) 3 allb
  hsp : ∀ i, i < n → spreadO xs (ker3 a b) n 3 all i = some (sp i)
  fsp : ∀ i, i < n → fin Ieee.single (sp i)
  hlast : ∀ i, i < n → ∃ Z A B C D, LastOk (sp i) (lowTo xs n) (highTo xs n) Z A B C D
  sh : ∀ r, r < 5 → ∃ x rt y, Sharp xs (ker3 a b) (fun i => ker3 a b (3 - 1 - i)) n 3 all allb (nowsW xs (ker3 a b) (fun i => ker3 a b (3 - 1 - i)) n 3 all allb r) x rt y (nowsW xs (ker3 a b) (fun i => ker3 a b (3 - 1 - i)) n 3 all allb (r + 1))
  pos : ∀ r, r ≤ 5 → ∀ i, i < n → (FloatKind.f32.format.order (nowsW xs (ker3 a b) (fun i => ker3 a b (3 - 1 - i)) n 3 all allb r i) 0 == some .lt) = false ∧ (FloatKind.f32.format.order (nowsW xs (ker3 a b) (fun i => ker3 a b (3 - 1 - i)) n 3 all allb r i) 0 == some .eq) = false

theorem pos_ord {x : Nat} (f : fin Ieee.single x) (h : 0 < fval Ieee.single x) : (FloatKind.f32.format.order x 0 == some .lt) = false ∧ (FloatKind.f32.format.order x 0 == some .eq) = false := by
  rw [lt32 f zero_fin, eq32 f zero_fin, zero_val]
  exact ⟨decide_eq_false (by grind), decide_eq_false (by grind)⟩

theorem spreads_told {xs : Nat → Nat} {n a b : Nat} (h : Lst xs n) (h3 : 3 ≤ n) (ha : a ≤ 3) (hb : b ≤ 3) : ∃ all allb sp, Spreads xs n a b all allb sp := by
  have K := small3 ha hb
  have KB := small3r ha hb
  obtain ⟨all, hs, fa, va, pa⟩ := kern_good K
  obtain ⟨allb, hsb, fb, vb, pb⟩ := kern_good KB
  obtain ⟨l1, l2, l3, l4⟩ := h.low_good (show 1 ≤ n by omega) n (Nat.le_refl _)
  obtain ⟨u1, u2, u3, u4⟩ := h.high_good (show 1 ≤ n by omega) n (Nat.le_refl _)
  have SP : ∀ i, i < n → ∃ z, spreadO xs (ker3 a b) n 3 all i = some z ∧ fin Ieee.single z ∧ fval Ieee.single (lowTo xs n) - 10 * (fval Ieee.single (lowTo xs n) * ee) ≤ fval Ieee.single z ∧ fval Ieee.single z ≤ fval Ieee.single (highTo xs n) + 14 * (fval Ieee.single (highTo xs n) * ee) := fun i hi =>
    spread_good K fa va (by omega) (by unfold tiny; grind) (by have := l4 0 (by omega); have := u4 0 (by omega); grind) (by grind) (fun i hi => h.fin hi) l4 u4 i hi
  have SG := sharp_good K KB fa va fb vb (show 1 ≤ n by omega) (fun i hi => h.fin hi) (fun i hi => h.lo hi) (fun i hi => h.hi hi)
  refine ⟨all, allb, xW (ker3 a b) n 3 all xs, K.kern hs fa pa, KB.kern hsb fb pb, fun i hi => ?_, fun i hi => ?_, fun i hi => ?_, fun r hr => (SG r (by omega)).2 hr, fun r hr i hi => ?_⟩
  · obtain ⟨z, hz, _⟩ := SP i hi
    unfold xW; rw [hz]; rfl
  · obtain ⟨z, hz, f, _⟩ := SP i hi
    unfold xW; rw [hz]; exact f
  · obtain ⟨z, hz, f, z1, z2⟩ := SP i hi
    unfold xW; rw [hz]
    exact last_good f l1 u1 l2 l3 u2 u3 z1 z2
  · obtain ⟨f, p, _⟩ := (SG r hr).1 i hi
    refine pos_ord f ?_
    have : ∀ r, r ≤ 5 → 0 < 1 / mR r := by decide +kernel
    have := this r hr
    grind

/-- What is told of the lists that come back: a kernel of one number. -/
structure Ones (xs : Nat → Nat) (n all2 : Nat) (sm nn : Nat → Nat) (nows : Nat → Nat → Nat) (all1 : Nat) : Prop where
  k2 : Kern (fun _ => 1073741824) 1 all2
  hsm : ∀ i, i < n → spreadO xs (fun _ => 1073741824) n 1 all2 i = some (sm i)
  fsm : ∀ i, i < n → fin Ieee.single (sm i)
  g2 : ∀ i, i < n → ∃ g, gap8 (sm i) (xs i) = some g ∧ (FloatKind.f64.format.order g c001 == some .gt) = false
  k1 : Kern (fun _ => 1065353216) 1 all1
  n0 : nows 0 = xs
  sh : ∀ r, r < 3 → ∃ x rt y, Sharp xs (fun _ => 1065353216) (fun _ => 1065353216) n 1 all1 all1 (nows r) x rt y (nows (r + 1))
  hnn : nows 3 = nn
  g1 : ∀ i, i < n → ∃ g, gap8 (nn i) (xs i) = some g ∧ (FloatKind.f64.format.order g c001 == some .gt) = false

theorem ones_told {xs : Nat → Nat} {n : Nat} (h : Lst xs n) (h3 : 3 ≤ n) : ∃ all2 sm nn nows all1, Ones xs n all2 sm nn nows all1 := by
  obtain ⟨all2, hs2, fa2, va2, pa2⟩ := kern_good small_two
  obtain ⟨all1, hs1, fa1, va1, pa1⟩ := kern_good small_one
  have SG := sharp_good small_one small_one fa1 va1 fa1 va1 (show 1 ≤ n by omega) (fun i hi => h.fin hi) (fun i hi => h.lo hi) (fun i hi => h.hi hi)
  have N : ∀ r, r ≤ 3 → ∀ i, i < n → fin Ieee.single (nowsW xs (fun _ => 1065353216) (fun _ => 1065353216) n 1 all1 all1 r i) ∧ (fval Ieee.single (nowsW xs (fun _ => 1065353216) (fun _ => 1065353216) n 1 all1 all1 r i) - fval Ieee.single (xs i)).abs ≤ 1 / 5000 := by
    intro r
    induction r with
    | zero => intro _ i hi; exact ⟨h.fin hi, by show (fval Ieee.single (xs i) - fval Ieee.single (xs i)).abs ≤ _; rw [Rat.sub_self]; decide +kernel⟩
    | succ r ih =>
      intro hr i hi
      obtain ⟨f, d⟩ := ih (by omega) i hi
      obtain ⟨x, rt, y, S⟩ := (SG r (by omega)).2 (by omega)
      exact ⟨S.fn i hi, sharp_one small_one small_one fa1 va1 fa1 va1 (by omega) S hi (h.fin hi) (h.lo hi) (h.hi hi) f d⟩
  have SP : ∀ i, i < n → ∃ z, spreadO xs (fun _ => 1073741824) n 1 all2 i = some z ∧ fin Ieee.single z ∧ (fval Ieee.single z - fval Ieee.single (xs i)).abs ≤ 1 / 5000 := fun i hi => by
    have l := h.lo hi; have u := h.hi hi
    obtain ⟨z, hz, f, z1, z2⟩ := spread_one small_two fa2 va2 (by omega) hi (h.fin hi) (by grind) (by grind)
    exact ⟨z, hz, f, Go.Flt.abs_le (by unfold ee at *; grind) (by unfold ee at *; grind)⟩
  refine ⟨all2, xW (fun _ => 1073741824) n 1 all2 xs, _, nowsW xs (fun _ => 1065353216) (fun _ => 1065353216) n 1 all1 all1, all1, small_two.kern hs2 fa2 pa2, fun i hi => ?_, fun i hi => ?_, fun i hi => ?_, small_one.kern hs1 fa1 pa1, rfl, fun r hr => (SG r (by omega)).2 (by omega), rfl, fun i hi => ?_⟩
  · obtain ⟨z, hz, _⟩ := SP i hi
    unfold xW; rw [hz]; rfl
  · obtain ⟨z, hz, f, _⟩ := SP i hi
    unfold xW; rw [hz]; exact f
  · obtain ⟨z, hz, f, d⟩ := SP i hi
    unfold xW; rw [hz]
    exact gap_fine f (h.fin hi) d (by decide +kernel)
  · obtain ⟨f, d⟩ := N 3 (Nat.le_refl _) i hi
    exact gap_fine f (h.fin hi) d (by decide +kernel)

theorem ker3_list (a b : Nat) : (List.range 3).map (fw (ker3 a b)) = [Value.float .f32 (floatOfInt .f32 (a : Int)), .float .f32 1065353216, .float .f32 (floatOfInt .f32 (b : Int))] := by
  have e : List.range 3 = [0, 1, 2] := rfl
  have f : ∀ x : Int, floatOfInt .f32 x = FloatKind.f32.nearest x := fun _ => rfl
  rw [e, f, f]
  simp only [List.map_cons, List.map_nil, fw, ker3_0, ker3_1, ker3_2]

theorem one_list (x : Nat) : (List.range 1).map (fw (fun _ => x)) = [Value.float .f32 x] := rfl

/-- A quiet callee met behind draws that add up. -/
theorem quiet_more {f : FuncId} {args : Array Value} {w : World} {q a : Nat} {v : Value} (h : Calls Try.prog f args (w.drewN (q + a)) (Quiet (w.drewN (q + a)) v)) :
    Calls Try.prog f args (w.drewN (q + a)) fun e w'' => e = .returned v ∧ ∃ n, w'' = w.drewN (q + n) :=
  h.mono fun _ _ ⟨he, m, hm⟩ => ⟨he, a + m, by rw [hm, World.drewN_drewN, Nat.add_assoc]⟩

end Go.Proofs.Ytdcfailgakofeaa
