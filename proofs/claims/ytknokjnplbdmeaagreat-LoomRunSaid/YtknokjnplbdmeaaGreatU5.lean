/-
  What a plan keeps, said two ways.
-/
import Derived.Test.YtknokjnplbdmeaaGreatU4
namespace Go.Proofs.Pet
open Go Go.RowKit Go.Maps Go.Shelf

theorem nodup_of_twice {xs : List Int} (h : twiceB xs = false) : xs.Nodup := by
  rw [List.nodup_iff_pairwise_ne, List.pairwise_iff_getElem]
  intro i j hi hj hij e
  unfold twiceB at h
  rw [List.any_eq_false] at h
  have := h j (List.mem_range.2 hj)
  refine this ?_
  have e1 : xs[j]?.getD 0 = xs[j] := by simp [hj]
  rw [e1, List.contains_iff_mem, List.mem_take_iff_getElem]
  exact ⟨i, by omega, e⟩
theorem setJ_last (f : Nat → Int) (l es : List Int) (k : Nat) : ∀ n, (setJ f l es n k = f k ∧ ∀ j, j < n → (l[j]?.getD 0).toNat ≠ k) ∨ ∃ j, j < n ∧ (l[j]?.getD 0).toNat = k ∧ setJ f l es n k = es[j]?.getD 0
  | 0 => .inl ⟨rfl, fun j h => absurd h (by omega)⟩
  | n + 1 => by
    by_cases e : k = (l[n]?.getD 0).toNat
    · exact .inr ⟨n, by omega, e.symm, if_pos e⟩
    · rcases setJ_last f l es k n with ⟨h1, h2⟩ | ⟨j, h1, h2, h3⟩
      · refine .inl ⟨(if_neg e).trans h1, fun j hj => ?_⟩
        by_cases ej : j = n
        · subst ej; exact fun h => e h.symm
        · exact h2 j (by omega)
      · exact .inr ⟨j, by omega, h2, (if_neg e).trans h3⟩
theorem endsF_get (m : Mill) (l : Nat) (xs : List Int) {j : Nat} (hj : j < xs.length) : (endsF m l xs xs.length)[j]?.getD 0 = dyR m l (rvI (xs.take (j + 1))) := by
  unfold endsF; rw [List.getElem?_map, List.getElem?_range hj]; rfl
/-- the end of an order is that of the last place where it stands -/
theorem endsUp_last (m : Mill) (xss : List (List Int)) (k : Nat) : ∀ n, (endsUp m xss n k = -1 ∧ ∀ i j, i < n → j < (xss[i]?.getD []).length → ((xss[i]?.getD [])[j]?.getD 0).toNat ≠ k) ∨
    ∃ i j, i < n ∧ j < (xss[i]?.getD []).length ∧ ((xss[i]?.getD [])[j]?.getD 0).toNat = k ∧ endsUp m xss n k = dyR m i (rvI ((xss[i]?.getD []).take (j + 1)))
  | 0 => .inl ⟨rfl, fun i j h => absurd h (by omega)⟩
  | n + 1 => by
    rcases setJ_last (endsUp m xss n) (xss[n]?.getD []) (endsF m n (xss[n]?.getD []) (xss[n]?.getD []).length) k (xss[n]?.getD []).length with ⟨h1, h2⟩ | ⟨j, h1, h2, h3⟩
    · rcases endsUp_last m xss k n with ⟨g1, g2⟩ | ⟨i, j, g1, g2, g3, g4⟩
      · refine .inl ⟨h1.trans g1, fun i j hi hj => ?_⟩
        by_cases ei : i = n
        · subst ei; exact h2 j hj
        · exact g2 i j (by omega) hj
      · exact .inr ⟨i, j, by omega, g2, g3, h1.trans g4⟩
    · exact .inr ⟨n, j, by omega, h1, h2, by rw [← endsF_get m n _ h1]; exact h3⟩
theorem tmR_iff (m : Mill) (l : Nat) (xs : List Int) : ∀ k, k ≤ xs.length → (tmR m l (rvI (xs.take k)) = true ↔ ∀ j, j < k → dyR m l (rvI (xs.take (j + 1))) ≤ m.byy (xs[j]?.getD 0).toNat)
  | 0, _ => by simp [rvI, tmR]
  | k + 1, hk => by
    have ih := tmR_iff m l xs k (by omega)
    have e := rvI_take (xs := xs) (k := k) (by omega)
    rw [e, tmR, Bool.and_eq_true, ih, decide_eq_true_eq, ← e]
    constructor
    · rintro ⟨h1, h2⟩ j hj
      by_cases ej : j = k
      · subst ej; exact h2
      · exact h1 j (by omega)
    · intro h
      exact ⟨fun j hj => h j (by omega), h k (by omega)⟩
def tmU (m : Mill) (xss : List (List Int)) : Nat → Bool
  | 0 => true
  | k + 1 => tmU m xss k && tmR m k (rvI (xss[k]?.getD []))
theorem tmU_iff (m : Mill) (xss : List (List Int)) : ∀ k, tmU m xss k = true ↔ ∀ i, i < k → tmR m i (rvI (xss[i]?.getD [])) = true
  | 0 => by simp [tmU]
  | k + 1 => by
    rw [tmU, Bool.and_eq_true, tmU_iff m xss k]
    constructor
    · rintro ⟨h1, h2⟩ j hj
      by_cases ej : j = k
      · subst ej; exact h2
      · exact h1 j (by omega)
    · intro h
      exact ⟨fun j hj => h j (by omega), h k (by omega)⟩
/-- no order below n is without an end -/
def allSet (f : Nat → Int) (q : Bool) : Nat → Bool
  | 0 => q
  | k + 1 => allSet f q k && !decide (f k = -1)
theorem allSet_iff (f : Nat → Int) (q : Bool) : ∀ k, allSet f q k = true ↔ q = true ∧ ∀ i, i < k → f i ≠ -1
  | 0 => by simp [allSet]
  | k + 1 => by
    rw [allSet, Bool.and_eq_true, allSet_iff f q k]
    constructor
    · rintro ⟨⟨h0, h1⟩, h2⟩
      refine ⟨h0, fun j hj => ?_⟩
      by_cases ej : j = k
      · subst ej; simpa using h2
      · exact h1 j (by omega)
    · rintro ⟨h0, h⟩
      exact ⟨⟨h0, fun j hj => h j (by omega)⟩, by have := h k (by omega); simpa using this⟩
theorem nodup_place {xss : List (List Int)} (h : xss.flatten.Nodup) {i j i' j' : Nat} (hi : i < xss.length) (hi' : i' < xss.length) (hj : j < (xss[i]?.getD []).length) (hj' : j' < (xss[i']?.getD []).length)
    (e : (xss[i]?.getD [])[j]?.getD 0 = (xss[i']?.getD [])[j']?.getD 0) : i = i' ∧ j = j' := by
  rw [List.nodup_iff_pairwise_ne, List.pairwise_flatten] at h
  obtain ⟨h1, h2⟩ := h
  have e1 : xss[i]?.getD [] = xss[i] := by simp [hi]
  have e2 : xss[i']?.getD [] = xss[i'] := by simp [hi']
  rw [e1] at hj e; rw [e2] at hj' e
  have f1 : xss[i][j]?.getD 0 = xss[i][j] := by simp [hj]
  have f2 : xss[i'][j']?.getD 0 = xss[i'][j'] := by simp [hj']
  rw [f1, f2] at e
  rw [List.pairwise_iff_getElem] at h2
  have m1 : xss[i][j] ∈ xss[i] := List.getElem_mem hj
  have m2 : xss[i'][j'] ∈ xss[i'] := List.getElem_mem hj'
  by_cases ei : i = i'
  · subst ei
    refine ⟨rfl, ?_⟩
    exact (List.getElem_inj (List.nodup_iff_pairwise_ne.2 (h1 _ (List.getElem_mem hi)))).1 e
  · exfalso
    rcases Nat.lt_or_ge i i' with hl | hg
    · exact h2 i i' hi hi' hl _ m1 _ m2 e
    · exact h2 i' i hi' hi (by omega) _ m2 _ m1 e.symm
theorem keeps_law {m : Mill} {xss : List (List Int)} (h : plE m xss = 0) : allSet (endsUp m xss xss.length) (tmU m xss xss.length) m.orders.length = keepsB m xss := by
  obtain ⟨_, _, h3, _⟩ := plE_ok h
  obtain ⟨g1, g2⟩ := listedE_ok h3
  have hnd := nodup_of_twice g2
  have hr := inB_range g1
  rw [Bool.eq_iff_iff, allSet_iff, tmU_iff]
  unfold keepsB keepK
  rw [List.all_eq_true]
  simp only [List.mem_range, Bool.and_eq_true, Bool.not_eq_true', decide_eq_false_iff_not, decide_eq_true_eq]
  constructor
  · rintro ⟨ht, hs⟩ k hk
    refine ⟨hs k hk, ?_⟩
    rcases endsUp_last m xss k xss.length with ⟨e1, _⟩ | ⟨i, j, e1, e2, e3, e4⟩
    · exact absurd e1 (hs k hk)
    · rw [e4, ← e3]
      have := ht i e1
      rw [← List.take_length (l := xss[i]?.getD []), tmR_iff m i _ _ (Nat.le_refl _)] at this
      exact this j e2
  · intro hk
    refine ⟨fun i hi => ?_, fun k hkk => (hk k hkk).1⟩
    rw [← List.take_length (l := xss[i]?.getD []), tmR_iff m i _ _ (Nat.le_refl _)]
    intro j hj
    have hm0 : (xss[i]?.getD [])[j]?.getD 0 ∈ xss[i]?.getD [] := by simp [hj]
    have hb := hr _ (mem_flat hi hm0)
    have hkb := (hk ((xss[i]?.getD [])[j]?.getD 0).toNat (by omega)).2
    rcases endsUp_last m xss ((xss[i]?.getD [])[j]?.getD 0).toNat xss.length with ⟨_, e2⟩ | ⟨i', j', e1, e2, e3, e4⟩
    · exact absurd rfl (e2 i j hi hj)
    · have hm1 : (xss[i']?.getD [])[j']?.getD 0 ∈ xss[i']?.getD [] := by simp [e2]
      have hb' := hr _ (mem_flat e1 hm1)
      obtain ⟨rfl, rfl⟩ := nodup_place hnd hi e1 hj e2 (by omega)
      rw [e4] at hkb
      exact hkb
end Go.Proofs.Pet
