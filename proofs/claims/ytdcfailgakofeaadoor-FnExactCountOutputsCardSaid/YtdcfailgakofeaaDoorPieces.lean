/-
  The pieces of a text between newlines, as a loop over indexes makes them, are those that strings.Split makes; no program in sight.
-/
import Derived.Lib.Split
import Derived.Lib.IndexBytes
import Derived.Lib.CountLaws
namespace Go.Proofs.YtdcfailgakofeaaDoor
open Go.Lib

/-- Cut at each c. -/
def cutAll (c : UInt8) : List UInt8 → List (List UInt8)
  | [] => [[]]
  | x :: l => if x = c then [] :: cutAll c l else
    match cutAll c l with
    | [] => [[x]]
    | h :: t => (x :: h) :: t

theorem cutAll_ne (c : UInt8) : ∀ l, cutAll c l ≠ []
  | [] => by simp [cutAll]
  | x :: l => by
    unfold cutAll
    split
    · simp
    · split <;> simp

/-- The loop's own pieces: f is where the piece begins, d how many bytes are left. -/
def cutFrom (s : ByteArray) (c : UInt8) (f : Nat) : Nat → List ByteArray
  | 0 => [s.extract f s.size]
  | d + 1 =>
    if h : s.size - (d + 1) < s.size then
      if s[s.size - (d + 1)]'h = c then s.extract f (s.size - (d + 1)) :: cutFrom s c (s.size - (d + 1) + 1) d
      else cutFrom s c f d
    else []

/-- The head of a list of pieces, longer by what stands before. -/
def longer (p : List UInt8) : List (List UInt8) → List (List UInt8)
  | [] => [p]
  | h :: t => (p ++ h) :: t

theorem longer_cons (p : List UInt8) (c x : UInt8) (l : List UInt8) (h : x ≠ c) : longer p (cutAll c (x :: l)) = longer (p ++ [x]) (cutAll c l) := by
  rw [cutAll, if_neg h]
  rcases hc : cutAll c l with _ | ⟨a, t⟩
  · exact absurd hc (cutAll_ne c l)
  · simp [longer]

theorem extract_list (s : ByteArray) (a b : Nat) : (s.extract a b).data.toList = (s.data.toList.take b).drop a := by
  rw [extract_data, List.drop_take]

theorem cutFrom_list (s : ByteArray) (c : UInt8) : ∀ (d f : Nat), d ≤ s.size → f ≤ s.size - d →
    (cutFrom s c f d).map (·.data.toList) = longer ((s.data.toList.take (s.size - d)).drop f) (cutAll c (s.data.toList.drop (s.size - d))) := by
  have hlen : s.data.toList.length = s.size := by simp
  intro d
  induction d with
  | zero =>
    intro f _ hf
    have e1 : s.data.toList.drop (s.size - 0) = [] := List.drop_eq_nil_of_le (by rw [hlen]; omega)
    rw [e1]
    simp [cutFrom, extract_list, cutAll, longer, List.drop_take]
  | succ d ih =>
    intro f hd hf
    have hlt : s.size - (d + 1) < s.size := by omega
    have hget : s.data.toList.drop (s.size - (d + 1)) = s[s.size - (d + 1)] :: s.data.toList.drop (s.size - d) := by
      rw [List.drop_eq_getElem_cons (by rw [hlen]; exact hlt)]
      congr 2
      omega
    have hadd : s.size - (d + 1) + 1 = s.size - d := by omega
    have htake : s.data.toList.take (s.size - d) = s.data.toList.take (s.size - (d + 1)) ++ [s[s.size - (d + 1)]] := by
      rw [← hadd, List.take_succ_eq_append_getElem (by rw [hlen]; exact hlt)]; rfl
    rw [cutFrom, dif_pos hlt, hget]
    by_cases hc : s[s.size - (d + 1)] = c
    · rw [if_pos hc, List.map_cons, ih _ (by omega) (by omega), cutAll, if_pos hc]
      simp only [longer, List.append_nil, extract_list]
      congr 1
      rw [hadd]
      have : (s.data.toList.take (s.size - d)).drop (s.size - d) = [] := List.drop_eq_nil_of_le (by simp)
      rw [this]
      rcases hk : cutAll c (s.data.toList.drop (s.size - d)) with _ | ⟨a, t⟩
      · exact absurd hk (cutAll_ne c _)
      · simp [longer]
    · rw [if_neg hc, ih f (by omega) (by omega), longer_cons _ _ _ _ hc, htake]
      congr 1
      rw [List.drop_append_of_le_length (by rw [List.length_take, hlen]; omega)]

theorem indexByte_cons (x c : UInt8) (l : List UInt8) : indexByte (x :: l) c = if x = c then 0 else if indexByte l c = -1 then -1 else indexByte l c + 1 := by
  rw [indexByte]
  simp only [beq_iff_eq]

theorem length_cutAll (c : UInt8) : ∀ l, (cutAll c l).length = l.count c + 1
  | [] => rfl
  | x :: l => by
    have ih := length_cutAll c l
    rw [cutAll]
    by_cases h : x = c
    · subst h; rw [if_pos rfl]; simp [ih]
    · rw [if_neg h, List.count_cons_of_ne h]
      rcases hk : cutAll c l with _ | ⟨a, t⟩
      · exact absurd hk (cutAll_ne c _)
      · rw [hk] at ih; simpa using ih

/-- No instance: one piece. -/
theorem cutAll_miss (c : UInt8) : ∀ l, indexByte l c = -1 → cutAll c l = [l]
  | [], _ => rfl
  | x :: l, h => by
    rw [indexByte_cons] at h
    by_cases hx : x = c
    · rw [if_pos hx] at h; omega
    · rw [if_neg hx] at h
      have h2 : indexByte l c = -1 := by
        have := indexByte_ge l c
        by_cases h3 : indexByte l c = -1
        · exact h3
        · rw [if_neg h3] at h; omega
      rw [cutAll, if_neg hx, cutAll_miss c l h2]

/-- An instance at i. -/
theorem cutAll_hit (c : UInt8) : ∀ l (i : Nat), indexByte l c = i → cutAll c l = l.take i :: cutAll c (l.drop (i + 1))
  | [], i, h => by simp only [indexByte] at h; omega
  | x :: l, i, h => by
    rw [indexByte_cons] at h
    by_cases hx : x = c
    · rw [if_pos hx] at h
      obtain rfl : i = 0 := by omega
      rw [cutAll, if_pos hx]; simp
    · rw [if_neg hx] at h
      have h2 : ¬ indexByte l c = -1 := fun e => by rw [if_pos e] at h; omega
      rw [if_neg h2] at h
      obtain ⟨j, rfl⟩ : ∃ j, i = j + 1 := ⟨i - 1, by have := indexByte_ge l c; omega⟩
      have := cutAll_hit c l j (by omega)
      rw [cutAll, if_neg hx, this]; simp

theorem splitK_cut (c : UInt8) : ∀ (n : Nat) (l : List UInt8), l.length ≤ n → splitK [c] 0 (count l [c]) l = cutAll c l := by
  intro n
  induction n with
  | zero =>
    intro l hl
    obtain rfl : l = [] := List.eq_nil_of_length_eq_zero (by omega)
    rw [count_miss (by rw [index_one]; rfl)]
    rfl
  | succ n ih =>
    intro l hl
    by_cases h : indexByte l c = -1
    · rw [count_miss (by rw [index_one]; exact h), splitK, cutAll_miss c l h]
    · have hge := indexByte_ge l c
      obtain ⟨i, hi⟩ : ∃ i : Nat, indexByte l c = i := by
        rcases Int.lt_or_le (indexByte l c) 0 with h0 | h0
        · omega
        · exact ⟨(indexByte l c).toNat, by omega⟩
      have hix : index l [c] = i := by rw [index_one]; exact hi
      have hle : index l [c] ≤ l.length := index_le l [c]
      have hne : ¬ l.length = 0 := fun e => by
        obtain rfl := List.eq_nil_of_length_eq_zero e
        exact h rfl
      rw [count_hit (by simp) hix, Nat.add_comm, splitK]
      have hf : (index l [c] == -1) = false := by rw [hix]; simp
      rw [hf, cutAll_hit c l i hi, hix]
      simp only [Bool.false_eq_true, if_false, Int.toNat_natCast, Nat.add_zero, List.length_singleton]
      rw [ih _ (by rw [List.length_drop]; omega)]

theorem bytes_ext {a b : ByteArray} (h : a.data.toList = b.data.toList) : a = b := by
  cases a; cases b; congr; exact Array.toList_inj.1 h

theorem map_bytes_inj : ∀ {a b : List ByteArray}, a.map (·.data.toList) = b.map (·.data.toList) → a = b
  | [], [], _ => rfl
  | [], _ :: _, h => by simp at h
  | _ :: _, [], h => by simp at h
  | x :: a, y :: b, h => by
    simp only [List.map_cons, List.cons.injEq] at h
    rw [bytes_ext h.1, map_bytes_inj h.2]

/-- THE PIECES OF BOTH ROADS ARE ONE. -/
theorem pieces_one (s : ByteArray) (c : UInt8) : cutFrom s c 0 s.size = splitB ⟨#[c]⟩ 0 (countB s ⟨#[c]⟩) s := by
  apply map_bytes_inj
  rw [splitB_data, cutFrom_list s c s.size 0 (Nat.le_refl _) (by omega)]
  have e : countB s ⟨#[c]⟩ = count s.data.toList [c] := rfl
  rw [e, splitK_cut c s.data.toList.length _ (Nat.le_refl _)]
  have hk : s.size - s.size = 0 := Nat.sub_self _
  rw [hk, List.take_zero]
  show longer [] (cutAll c s.data.toList) = cutAll c s.data.toList
  rcases hc : cutAll c s.data.toList with _ | ⟨a, t⟩
  · exact absurd hc (cutAll_ne c _)
  · rfl

end Go.Proofs.YtdcfailgakofeaaDoor
