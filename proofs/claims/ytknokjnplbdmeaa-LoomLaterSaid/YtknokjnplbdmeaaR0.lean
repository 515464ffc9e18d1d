/-
  What the laws' own test of a plan answers. No program is named here.
-/
import Derived.Lib.SlicesCompact
import Derived.Test.YtknokjnplbdmeaaO6
import Derived.Test.YtknokjnplbdmeaaV2
namespace Go.Proofs.Pet
open Go

theorem compact_len {xs : List Int} (hs : xs.Pairwise (· ≤ ·)) : (Lib.compact xs).length = xs.length ↔ xs.Nodup := by
  have h0 : (Lib.compact xs).length = xs.length ↔ ∀ j, j < xs.length → Lib.keeps xs.toArray j = true := by
    unfold Lib.compact Lib.compactUpTo
    rw [List.length_map]
    have h := List.length_filter_eq_length_iff (p := Lib.keeps xs.toArray) (l := List.range xs.length)
    rw [List.length_range] at h
    rw [h]
    simp
  rw [h0]
  have hk : ∀ j (hj : j < xs.length), Lib.keeps xs.toArray j = decide (j = 0 ∨ xs[j] ≠ xs[j - 1]'(by omega)) := fun j hj => by
    unfold Lib.keeps
    rw [getElem!_pos xs.toArray j (by simpa using hj), getElem!_pos xs.toArray (j - 1) (by simp; omega)]
    simp
  rw [List.pairwise_iff_getElem] at hs
  constructor
  · intro h
    rw [List.nodup_iff_pairwise_ne, List.pairwise_iff_getElem]
    intro i j hi hj hij e
    have h1 := h j hj
    rw [hk j hj, decide_eq_true_eq] at h1
    rcases h1 with h1 | h1
    · omega
    · have h2 := hs (j - 1) j (by omega) hj (by omega)
      rcases Nat.lt_or_ge i (j - 1) with h3 | h3
      · have h4 := hs i (j - 1) hi (by omega) h3
        omega
      · obtain rfl : i = j - 1 := by omega
        exact h1 e.symm
  · intro h j hj
    rw [hk j hj, decide_eq_true_eq]
    rcases Nat.eq_zero_or_pos j with h1 | h1
    · exact .inl h1
    · refine .inr fun e => ?_
      rw [List.nodup_iff_pairwise_ne, List.pairwise_iff_getElem] at h
      exact h (j - 1) j (by omega) hj (by omega) e.symm
theorem sorted_pw (xs : List Int) : (xs.mergeSort fun x y => decide (x ≤ y)).Pairwise (· ≤ ·) :=
  (List.pairwise_mergeSort (fun a b c h1 h2 => by simp only [decide_eq_true_eq] at *; omega) (fun a b => by simp only [Bool.or_eq_true, decide_eq_true_eq]; omega) xs).imp fun {a b} h => by simpa using h
theorem compact_sorted (xs : List Int) : (Lib.compact (xs.mergeSort fun x y => decide (x ≤ y))).length = xs.length ↔ xs.Nodup := by
  have h1 := compact_len (sorted_pw xs)
  rw [List.length_mergeSort] at h1
  rw [h1]
  exact (List.mergeSort_perm xs _).nodup_iff
/-- each loom's run is one, in time -/
def keptB (m : Mill) (rows : List (List Int)) : Bool := decide (rows.length = m.laced.length) && (List.range rows.length).all fun i => okW m i (rows[i]?.getD [])
/-- and each order is in one of them -/
def keptQ (m : Mill) (rows : List (List Int)) : Bool := keptB m rows && (decide rows.flatten.Nodup && decide (rows.flatten.length = m.orders.length))
theorem keptB_iff {m : Mill} {rows : List (List Int)} : keptB m rows = true ↔ rows.length = m.laced.length ∧ ∀ i, i < rows.length → okW m i (rows[i]?.getD []) = true := by
  unfold keptB
  rw [Bool.and_eq_true, decide_eq_true_eq, List.all_eq_true]
  simp
theorem keptB_false {m : Mill} {rows : List (List Int)} {i : Nat} (hi : i < rows.length) (h : okW m i (rows[i]?.getD []) = false) : keptB m rows = false := by
  rw [← Bool.not_eq_true, keptB_iff]
  intro h2
  rw [h2.2 i hi] at h
  cases h
theorem okW_iff {m : Mill} {n : Nat} {xs : List Int} : okW m n xs = true ↔ (∀ x, x ∈ xs → 0 ≤ x ∧ x < m.orders.length) ∧ xs.Nodup ∧ (∀ x, x ∈ xs → weavesI m n x = true) ∧ tmR m n (rvI xs) = true := by
  unfold okW
  simp only [Bool.and_eq_true, List.all_eq_true, Bool.not_eq_true', twiceB_iff, and_assoc, inB, decide_eq_true_eq]
  constructor
  · rintro ⟨h1, h2, h3, h4⟩
    exact ⟨fun x hx => by have := h1 x hx; omega, h2, h3, h4⟩
  · rintro ⟨h1, h2, h3, h4⟩
    exact ⟨fun x hx => by have := h1 x hx; omega, h2, h3, h4⟩
theorem PlanIsOk.kept {m : Mill} {rows : List (List Int)} (h : PlanIsOk m rows) : keptQ m rows = true := by
  obtain ⟨h1, h2, h3, h4⟩ := plE_ok h.pl
  have hnd : rows.flatten.Nodup := h.perm.symm.nodup_iff.1 (nodup_ints List.nodup_range)
  unfold keptQ
  rw [Bool.and_eq_true, Bool.and_eq_true, decide_eq_true_eq, decide_eq_true_eq, keptB_iff]
  refine ⟨⟨h.len, fun i hi => okW_iff.2 ⟨h.rng i hi, ?_, ?_, h.tm i hi⟩⟩, hnd, h.all⟩
  · rw [List.nodup_iff_pairwise_ne, List.pairwise_flatten] at hnd
    rw [List.nodup_iff_pairwise_ne]
    exact hnd.1 _ (by simp [hi])
  · intro x hx
    unfold weavesAll at h4
    have := List.all_eq_true.1 h4 i (List.mem_range.2 hi)
    exact List.all_eq_true.1 this x hx
end Go.Proofs.Pet
