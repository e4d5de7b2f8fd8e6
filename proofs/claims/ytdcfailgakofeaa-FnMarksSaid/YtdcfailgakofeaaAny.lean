/-
  A region that draws its order, by an invariant on what has been carried out: whatever order is picked.
-/
import Derived.Orders
namespace Go
variable {P : Program} {ops : Array Oper} {Q : Exit → Act → World → Prop} {md : Region.Mode}

/-- How many of the first n are not yet listed. -/
def restOf (listed : Array Bool) : Nat → Nat
  | 0 => 0
  | n + 1 => restOf listed n + if listed.getD n true then 0 else 1

theorem restOf_set (listed : Array Bool) (i : Nat) (hi : i < listed.size) (hf : listed.getD i true = false) : ∀ n, restOf (listed.setIfInBounds i true) n + (if i < n then 1 else 0) = restOf listed n
  | 0 => by simp [restOf]
  | n + 1 => by
    have ih := restOf_set listed i hi hf n
    unfold restOf
    by_cases h : i = n
    · subst h
      have e : (listed.setIfInBounds i true).getD i true = true := by simp [hi]
      rw [e, hf]
      rw [if_neg (Nat.lt_irrefl _)] at ih
      rw [if_pos rfl, if_pos (by omega), if_neg (by simp)]
      omega
    · have e : (listed.setIfInBounds i true).getD n true = listed.getD n true := by
        simp [Array.getElem?_setIfInBounds, h]
      rw [e]
      generalize (if listed.getD n true = true then 0 else 1) = z
      by_cases h2 : i < n
      · have e2 : (if i < n + 1 then 1 else 0 : Nat) = 1 := if_pos (by omega)
        rw [if_pos h2] at ih; rw [e2]; omega
      · have e2 : (if i < n + 1 then 1 else 0 : Nat) = 0 := if_neg (by omega)
        rw [if_neg h2] at ih; rw [e2]; omega

theorem restOf_zero (listed : Array Bool) : ∀ n, restOf listed n = 0 → ∀ i, i < n → listed.getD i true = true
  | 0, _, i, hi => by omega
  | n + 1, h, i, hi => by
    unfold restOf at h
    by_cases hn : i = n
    · subst hn
      cases hb : listed.getD i true
      · rw [hb] at h; simp at h
      · rfl
    · exact restOf_zero listed n (by omega) i (by omega)

theorem restOf_le (listed : Array Bool) : ∀ n, restOf listed n ≤ n
  | 0 => Nat.le_refl _
  | n + 1 => by
    have := restOf_le listed n
    unfold restOf
    split <;> omega

theorem wpAny_inv (I : Array Bool → Act → World → Prop) (hsize : ∀ listed a w, I listed a w → listed.size = ops.size)
    (step : ∀ listed a w i, I listed a w → i ∈ Region.ready md ops listed → wpOp P ops Q i (I (listed.setIfInBounds i true)) a w)
    (done : ∀ listed a w, I listed a w → Region.ready md ops listed = [] → Q .normal a w) :
    ∀ (fuel : Nat) (listed : Array Bool) (a : Act) (w : World), restOf listed ops.size ≤ fuel → I listed a w → wpAny P md ops Q fuel listed a w
  | 0, listed, a, w, hl, hI => by
    have h0 := restOf_zero listed ops.size (by omega)
    have hr : Region.ready md ops listed = [] := by
      unfold Region.ready
      rw [List.filter_eq_nil_iff]
      intro i hi
      rw [List.mem_range] at hi
      simp [h0 i hi]
    exact ⟨hr, done _ _ _ hI hr⟩
  | fuel + 1, listed, a, w, hl, hI => by
    refine ⟨fun h => done _ _ _ hI h, fun i hi => ?_⟩
    have hs := hsize _ _ _ hI
    have hi' := hi
    unfold Region.ready at hi'
    rw [List.mem_filter, List.mem_range] at hi'
    obtain ⟨hlt, hc⟩ := hi'
    have hf : listed.getD i true = false := by
      rw [Bool.and_eq_true] at hc
      simpa using hc.1
    have hset := restOf_set listed i (by omega) hf ops.size
    rw [if_pos hlt] at hset
    exact wpOp_mono (fun a' w' h => wpAny_inv I hsize step done fuel _ a' w' (by omega) h) (step listed a w i hI hi)

/-- What 'ready' tells of an operation. -/
theorem ready_tells {listed : Array Bool} {i : Nat} {o : Oper} (h : i ∈ Region.ready md ops listed) (ho : ops[i]? = some o) :
    i < ops.size ∧ ∀ e ∈ o.after.toList, Region.binds md e = true → listed.getD e.on false = true := by
  unfold Region.ready at h
  rw [List.mem_filter, List.mem_range] at h
  refine ⟨h.1, fun e he hb => ?_⟩
  have hc := h.2
  rw [ho, Bool.and_eq_true] at hc
  simp only [Option.map_some, Option.getD_some, Array.all_eq_true_iff_forall_mem] at hc
  have := hc.2 e (by simpa using he)
  rw [hb] at this
  simpa using this

/-- One operation, what follows behind a variable. -/
theorem wpOp_via {I : Act → World → Prop} {i : Nat} {a : Act} {w : World} (h : ∀ K : Act → World → Prop, (∀ a w, I a w → K a w) → wpOp P ops Q i K a w) : wpOp P ops Q i I a w := h I (fun _ _ h => h)

/-- Where nothing is ready, an operation all of whose forerunners are listed is listed. -/
theorem ready_nil {listed : Array Bool} {i : Nat} {o : Oper} (h : Region.ready md ops listed = []) (ho : ops[i]? = some o) (hs : listed.size = ops.size)
    (ha : (o.after.all fun e => !Region.binds md e || listed.getD e.on false) = true) : listed.getD i false = true := by
  have hi : i < ops.size := (Array.getElem?_eq_some_iff.1 ho).1
  cases hb : listed.getD i true with
  | true =>
    have : i < listed.size := by omega
    simp [this] at hb ⊢
    exact hb
  | false =>
    exfalso
    have : i ∈ Region.ready md ops listed := by
      unfold Region.ready
      rw [List.mem_filter, List.mem_range]
      refine ⟨hi, ?_⟩
      rw [ho, hb]
      simpa using ha
    rw [h] at this
    cases this

theorem ready_tells_lt {listed : Array Bool} {i : Nat} (h : i ∈ Region.ready md ops listed) : i < ops.size := by
  unfold Region.ready at h
  rw [List.mem_filter, List.mem_range] at h
  exact h.1
end Go
