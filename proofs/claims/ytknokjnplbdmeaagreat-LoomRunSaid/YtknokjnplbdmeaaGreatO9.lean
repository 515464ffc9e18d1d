/-
  Orders in the order of their days: if one loom can weave them in time at all, it can so. No program is named here.
-/
import Derived.Test.YtknokjnplbdmeaaGreatO6
import Derived.Test.YtknokjnplbdmeaaGreatQ1
namespace Go.Proofs.Pet
open Go

theorem sdR_sum (m : Mill) : ∀ r : List Nat, sdR m r = (r.map m.dys).sum
  | [] => rfl
  | k :: r => by simp only [sdR, sdR_sum m r, List.map_cons, List.sum_cons]; omega
theorem daysT_append (m : Mill) (t : Nat → Bool) (a b : List Nat) : daysT m t (a ++ b) = daysT m t a + daysT m t b := by
  unfold daysT; simp
theorem daysT_all (m : Mill) (t : Nat → Bool) (a : List Nat) (h : ∀ k, k ∈ a → t k = true) : daysT m t a = (a.map m.dys).sum := by
  unfold daysT
  congr 1
  exact List.map_congr_left fun k hk => by rw [if_pos (h k hk)]
theorem daysT_pos {m : Mill} (hch : checkE m = 0) (t : Nat → Bool) : ∀ a : List Nat, 0 ≤ daysT m t a
  | [] => by simp [daysT]
  | k :: a => by
    have := daysT_pos hch t a
    have h2 := dys_nonneg hch k
    unfold daysT at this ⊢
    simp only [List.map_cons, List.sum_cons]
    split <;> omega
theorem due_ok {m : Mill} (hch : checkE m = 0) (h0 : m.change = 0) (l : Nat) (r : List Nat) (ht : tmR m l r = true) (xs : List Int) (hperm : (xs.map Int.toNat).Perm r)
    (hb : ∀ k, k ∈ r → 0 ≤ m.byy k) (hs : xs.Pairwise fun a b => m.byy a.toNat ≤ m.byy b.toNat) : tmR m l (rvI xs) = true := by
  have := (tmR_iff m l xs xs.length (Nat.le_refl _)).2
  rw [List.take_length] at this
  refine this fun j hj => ?_
  have hd : dyR m l (rvI (xs.take (j + 1))) = (((xs.take (j + 1)).map Int.toNat).map m.dys).sum := by
    rw [dyR_eq, h0, Int.zero_mul, Int.add_zero, sdR_sum]
    unfold rvI
    exact sum_perm ((List.reverse_perm _).map _)
  rw [hd]
  let t : Nat → Bool := fun k => ((xs.take (j + 1)).map Int.toNat).contains k
  have hxj : xs[j]?.getD 0 = xs[j] := by simp [hj]
  rw [hxj]
  have hmem : xs[j].toNat ∈ r := hperm.mem_iff.1 (List.mem_map.2 ⟨_, List.getElem_mem hj, rfl⟩)
  have htb : ∀ k, t k = true → m.byy k ≤ m.byy xs[j].toNat := fun k hk => by
    have hk : k ∈ (xs.take (j + 1)).map Int.toNat := by simpa [t] using hk
    obtain ⟨x, hx, rfl⟩ := List.mem_map.1 hk
    obtain ⟨i, hi, rfl⟩ := List.mem_iff_getElem.1 hx
    rw [List.length_take] at hi
    rw [List.getElem_take]
    rcases Nat.lt_or_ge i j with h | h
    · exact (List.pairwise_iff_getElem.1 hs) i j (by omega) hj h
    · have : i = j := by omega
      subst this; exact Int.le_refl _
  have h1 := daysT_run hch l t _ (hb _ hmem) htb r ht
  have h2 : daysT m t r = daysT m t (xs.map Int.toNat) := by unfold daysT; exact sum_perm (hperm.symm.map _)
  have h3 : xs.map Int.toNat = (xs.take (j + 1)).map Int.toNat ++ (xs.drop (j + 1)).map Int.toNat := by rw [← List.map_append, List.take_append_drop]
  rw [h2, h3, daysT_append, daysT_all m t _ (fun k hk => by simpa [t] using hk)] at h1
  have h4 := daysT_pos hch t ((xs.drop (j + 1)).map Int.toNat)
  omega
/-- a run of all orders, and its set -/
theorem full_set {m : Mill} {xs : List Int} (hp : xs.Perm (ints (List.range m.orders.length))) : IsSet (2 ^ m.orders.length - 1) (rvI xs) := by
  have h2 : (rvI xs).Perm (bits m.orders.length (2 ^ m.orders.length - 1)) := by
    rw [bits_all]
    unfold rvI
    refine (List.reverse_perm _).trans ?_
    have := hp.map Int.toNat
    unfold ints at this
    rw [List.map_map] at this
    have e : List.map (Int.toNat ∘ fun k : Nat => (k : Int)) (List.range m.orders.length) = List.range m.orders.length := by
      rw [List.map_congr_left (g := id) (fun x _ => by simp)]; simp
    rwa [e] at this
  exact (isSet_perm (n := m.orders.length) (by have := Nat.two_pow_pos m.orders.length; omega) _).2 h2
theorem setF_full {m : Mill} : setF (ints (List.range m.orders.length)) = 2 ^ m.orders.length - 1 := by
  apply Nat.eq_of_testBit_eq
  intro k
  rw [setF_testBit _ (fun x hx => by obtain ⟨j, _, rfl⟩ := ints_mem.1 hx; omega), Nat.testBit_two_pow_sub_one, Bool.eq_iff_iff]
  simp only [List.contains_iff_mem, decide_eq_true_eq]
  constructor
  · intro h
    obtain ⟨j, hj, e⟩ := ints_mem.1 h
    have := List.mem_range.1 hj
    omega
  · intro h
    exact ints_mem.2 ⟨k, List.mem_range.2 h, rfl⟩
/-- a mill of one loom -/
theorem one_weaves {m : Mill} (hok : MillOk m) (h1 : m.laced.length = 1) (k : Nat) (hk : k < m.orders.length) : weavesI m 0 (k : Int) = true := by
  have ho := hok.ords (m.orders[k]?.getD default) (by simp [hk])
  unfold weavesI
  rw [Int.toNat_natCast]
  obtain ⟨x, l, e⟩ : ∃ x l, (m.orders[k]?.getD default).on = x :: l := by
    cases h : (m.orders[k]?.getD default).on with
    | nil => exact absurd h ho.ne
    | cons x l => exact ⟨x, l, rfl⟩
  have := ho.on x (by rw [e]; simp)
  have hx : x = 0 := by omega
  rw [e, hx]
  simp
end Go.Proofs.Pet
