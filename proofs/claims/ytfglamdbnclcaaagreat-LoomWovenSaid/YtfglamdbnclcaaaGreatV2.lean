/-
  What a plan that is found is, as the law of plans asks it. No program is named here.
-/
import Derived.Test.YtfglamdbnclcaaaGreatP19
import Derived.Test.YtfglamdbnclcaaaGreatUA
namespace Go.Proofs.Pet
open Go

theorem bits_all {n : Nat} : bits n (2 ^ n - 1) = List.range n := by
  unfold bits
  rw [List.filter_eq_self]
  intro k hk
  rw [Nat.testBit_two_pow_sub_one]
  simpa using hk
theorem chgF_sum (m : Mill) (xss : List (List Int)) : ∀ k, chgF m xss k = ((List.range k).map fun i => chR m i (rvI (xss[i]?.getD []))).sum
  | 0 => rfl
  | k + 1 => by rw [chgF, chgF_sum m xss k, List.range_succ, List.map_append, List.sum_append]; simp
/-- what a plan of Plan is -/
structure PlanIsOk (m : Mill) (rows : List (List Int)) : Prop where
  len : rows.length = m.laced.length
  pl : plE m rows = 0
  short : ∀ i, i < rows.length → (rows[i]?.getD []).length ≤ 7
  rng : ∀ i, i < rows.length → ∀ x, x ∈ rows[i]?.getD [] → 0 ≤ x ∧ x < m.orders.length
  tm : ∀ i, i < rows.length → tmR m i (rvI (rows[i]?.getD [])) = true
  sum : chgF m rows rows.length = fewR m (2 ^ m.orders.length - 1)
  all : rows.flatten.length = m.orders.length
  perm : rows.flatten.Perm (ints (List.range m.orders.length))
theorem twice_of_nodup {xs : List Int} (h : xs.Nodup) : twiceB xs = false := twiceB_false fun _ hk => nodup_not_take h hk
theorem plan_law {m : Mill} (hch : checkE m = 0) {rows : List (List Int)} (h : planF m = some rows) : PlanIsOk m rows := by
  unfold planF at h
  split at h
  · rename_i hs
    have hr : planB m m.laced.length (2 ^ m.orders.length - 1) = rows := Option.some.inj h
    have hlt : 2 ^ m.orders.length - 1 < 2 ^ m.orders.length := by have := Nat.two_pow_pos m.orders.length; omega
    obtain ⟨⟨h1, h2, h3⟩, h4⟩ := planB_ok m hch m.laced.length (2 ^ m.orders.length - 1) hlt hs
    rw [hr] at h1 h2 h3 h4
    rw [bits_all] at h3
    have hlen : rows.flatten.length = m.orders.length := by rw [h3.length_eq]; simp [ints]
    have hmem : ∀ x, x ∈ rows.flatten → 0 ≤ x ∧ x < m.orders.length := fun x hx => by
      have := h3.mem_iff.1 hx
      unfold ints at this
      obtain ⟨k, hk, rfl⟩ := List.mem_map.1 this
      have := List.mem_range.1 hk
      omega
    have hrow : ∀ i, i < rows.length → ∀ x, x ∈ rows[i]?.getD [] → x ∈ rows.flatten := fun i hi x hx => mem_flat hi hx
    have hnd : rows.flatten.Nodup := h3.symm.nodup_iff.1 (nodup_ints List.nodup_range)
    obtain ⟨_, _, l3⟩ := check_len hch
    refine ⟨h1, ?_, fun i hi => ?_, fun i hi x hx => hmem x (hrow i hi x hx), fun i hi => ?_, ?_, hlen, h3⟩
    · unfold plE
      rw [if_neg (by rw [hch]; simp), if_neg (by rw [h1]; simp)]
      have hl0 : listedE m rows.flatten = 0 := by
        unfold listedE
        rw [if_neg, if_neg]
        · rw [twice_of_nodup hnd]; simp
        · rw [Bool.not_eq_false, List.all_eq_true]
          intro x hx
          have := hmem x hx
          unfold inB
          simp; omega
      rw [if_neg (by rw [hl0]; simp)]
      rw [if_neg]
      rw [Bool.not_eq_false]
      refine weavesAll_true fun j hj => List.all_eq_true.2 fun x hx => ?_
      obtain ⟨s, _, _, hw, _⟩ := h2 j (by omega)
      exact hw x hx
    · obtain ⟨s, _, hp, _⟩ := h2 i (by omega)
      rw [hp.length_eq]
      have := bits_length_le m.orders.length s
      simp [ints]; omega
    · obtain ⟨s, _, _, _, ht, _⟩ := h2 i (by omega)
      exact ht
    · rw [chgF_sum, h1, h4, fewR_sum m hch _ hlt, if_pos hs]
  · cases h
end Go.Proofs.Pet
