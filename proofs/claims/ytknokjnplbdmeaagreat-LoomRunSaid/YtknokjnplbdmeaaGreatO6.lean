/-
  What a run is, as the laws' own test has it. No program is named here.
-/
import Derived.Test.YtknokjnplbdmeaaGreatO2
namespace Go.Proofs.Pet
open Go

def okW (m : Mill) (n : Nat) (xs : List Int) : Bool := (xs.all fun k => inB k 0 (m.orders.length - 1)) && !twiceB xs && (xs.all fun k => weavesI m n k) && tmR m n (rvI xs)
theorem twiceB_iff (xs : List Int) : twiceB xs = false ↔ xs.Nodup := ⟨nodup_of_twice, twice_of_nodup⟩
theorem twiceB_snoc (xs : List Int) (x : Int) : twiceB (xs ++ [x]) = (twiceB xs || xs.contains x) := by
  rw [Bool.eq_iff_iff, ← Bool.not_eq_false, ← Bool.not_eq_false, Bool.or_eq_false_iff, twiceB_iff, twiceB_iff, List.nodup_append]
  simp only [List.nodup_cons, List.not_mem_nil, not_false_eq_true, List.nodup_nil, and_self, true_and, List.mem_singleton]
  constructor
  · intro h1 h2
    apply h1
    refine ⟨h2.1, fun a ha b hb => ?_⟩
    subst hb
    intro e
    subst e
    have := h2.2
    rw [List.contains_iff_mem.2 ha] at this
    cases this
  · intro h1 h2
    apply h1
    refine ⟨h2.1, ?_⟩
    rw [← Bool.not_eq_true, List.contains_iff_mem]
    intro hm
    exact h2.2 x hm x rfl rfl
theorem okW_succ (m : Mill) (n : Nat) {xs : List Int} {i : Nat} (hi : i < xs.length) : okW m n (xs.take (i + 1)) =
    (okW m n (xs.take i) && inB (xs[i]?.getD 0) 0 (m.orders.length - 1) && !(xs.take i).contains (xs[i]?.getD 0) && weavesI m n (xs[i]?.getD 0) && decide (dyR m n (rvI (xs.take (i + 1))) ≤ m.byy (xs[i]?.getD 0).toNat)) := by
  have ht : xs.take (i + 1) = xs.take i ++ [xs[i]?.getD 0] := by rw [List.take_succ_eq_append_getElem hi]; simp [hi]
  unfold okW
  rw [all_take_snoc xs _ hi, all_take_snoc xs _ hi]
  have h3 : twiceB (xs.take (i + 1)) = (twiceB (xs.take i) || (xs.take i).contains (xs[i]?.getD 0)) := by rw [ht, twiceB_snoc]
  have h4 : tmR m n (rvI (xs.take (i + 1))) = (tmR m n (rvI (xs.take i)) && decide (dyR m n (rvI (xs.take (i + 1))) ≤ m.byy (xs[i]?.getD 0).toNat)) := by rw [rvI_take hi]; rfl
  rw [h3, h4]
  cases (xs.take i).all (fun k => inB k 0 (m.orders.length - 1)) <;> cases inB (xs[i]?.getD 0) 0 (m.orders.length - 1) <;> cases twiceB (xs.take i) <;> cases (xs.take i).contains (xs[i]?.getD 0) <;> cases (xs.take i).all (fun k => weavesI m n k) <;> cases weavesI m n (xs[i]?.getD 0) <;> cases tmR m n (rvI (xs.take i)) <;> rfl
theorem okW_pre (m : Mill) (n : Nat) (xs : List Int) : ∀ d i, i + d = xs.length → okW m n (xs.take i) = false → okW m n xs = false
  | 0, i, h, hf => by rwa [show i = xs.length by omega, List.take_length] at hf
  | d + 1, i, h, hf => okW_pre m n xs d (i + 1) (by omega) (by rw [okW_succ m n (by omega), hf]; rfl)
theorem okW_nil (m : Mill) (n : Nat) : okW m n [] = true := rfl
end Go.Proofs.Pet
