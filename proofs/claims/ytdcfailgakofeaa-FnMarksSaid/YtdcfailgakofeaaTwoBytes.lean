/-
  Two slices of bytes that come in, opened.
-/
import Derived.Test.YtdcfailgakofeaaWp3
import Derived.Test.YtdcfailgakofeaaScanLaw
namespace Go.Proofs.Ytdcfailgakofeaa
open Go.ChangeShapes Go.WideShapes Go.ChangeAt Go.RowKit

theorem wf_u8 {n : Int} (h : (Lit.int .u8 n).wf = true) : 0 ≤ n ∧ n < 256 := by
  simp [Lit.wf, IntKind.has, IntKind.min, IntKind.max, IntKind.signed, IntKind.bits] at h
  omega

/-- What the walk is told of bytes that came in. -/
theorem open_bytes {H : Type} {enc : TypeId × Value → H} {w : World} {base : Nat} {spare : Nat → Bool} {held : Bool} {a : Option Addr} {len cap : Nat} {d : DataW H} {ps : List MemPlace}
    (h : DataW.Trod enc Try.prog w base spare held 22 (.slice a len cap) d ps) : ∃ z : Nat → Int, Bytes w a len z := by
  obtain ⟨fuel, hf⟩ := h
  rcases open_ints Try.underlying22 Try.underlying5 (by kernel_rfl) hf with ⟨hcs, _⟩ | ⟨x, l, c, zs, hcs, _, hl, hm, hz, _, hcell, hwz⟩
  · simp [Value.cells] at hcs
    obtain ⟨rfl, rfl, rfl⟩ := hcs
    exact ⟨fun _ => 0, fun i hi => absurd hi (by omega), fun i hi => absurd hi (by omega)⟩
  · simp [Value.cells] at hcs
    obtain ⟨rfl, rfl, rfl⟩ := hcs
    have hlz : len ≤ zs.length := by rw [hz]; split <;> omega
    refine ⟨fun i => zs.getD i 0, fun i hi => ?_, fun i hi => ?_⟩
    · have hc := hcell i (by omega)
      obtain ⟨xb, xo, spot⟩ := x
      have hspot : spot = none := by
        have := World.cell?_spot (hcell 0 (by omega))
        simpa [Addr.add] using this
      subst hspot
      refine ⟨xb, xo, rfl, ?_⟩
      have hadd : (⟨xb, xo, none⟩ : Addr).add i = ⟨xb, xo + i, none⟩ := by unfold Addr.add; split <;> simp_all
      rw [← hadd, hc]
    · have e : zs.getD i 0 = zs[i] := by simp [show i < zs.length by omega]
      show 0 ≤ zs.getD i 0 ∧ zs.getD i 0 < 256
      rw [e]
      exact wf_u8 (hwz _ (List.getElem_mem _))
end Go.Proofs.Ytdcfailgakofeaa
