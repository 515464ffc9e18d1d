/-
  Crowds, in plain Lean: if there is one, no plan keeps; the first one that is found is the first. No program is named here.
  What a run is, as the laws' own test has it. No program is named here.
-/
import Derived.Test.YtfglamdbnclcaaaGreatV2
import Derived.Test.YtfglamdbnclcaaaGreatQA
namespace Go.Proofs.Pet
open Go

theorem sum_perm {l l' : List Int} (h : l.Perm l') : l.sum = l'.sum := by
  induction h with
  | nil => rfl
  | cons x _ ih => simp [ih]
  | swap x y l => simp only [List.sum_cons]; omega
  | trans _ _ h1 h2 => exact h1.trans h2
theorem dyR_sum {m : Mill} (hch : checkE m = 0) (l : Nat) : ∀ r : List Nat, (r.map m.dys).sum ≤ dyR m l r
  | [] => by simp [dyR]
  | k :: r => by
    have h1 := dyR_sum hch l r
    have h2 := check_change hch
    have h3 := chg_bd (lastPat m l r) (m.pat k)
    have h4 : 0 ≤ m.change * chg (lastPat m l r) (m.pat k) := Int.mul_nonneg h2 h3.1
    simp only [List.map_cons, List.sum_cons, dyR]
    omega
/-- the days of the orders of a run that a test takes -/
def daysT (m : Mill) (t : Nat → Bool) (r : List Nat) : Int := (r.map fun k => if t k = true then m.dys k else 0).sum
theorem dys_nonneg {m : Mill} (hch : checkE m = 0) (k : Nat) : 0 ≤ m.dys k := by
  unfold Mill.dys
  by_cases h : k < m.orders.length
  · have := (check_orders hch).1 _ (List.getElem_mem h)
    simp only [List.getElem?_eq_getElem h, Option.getD_some]
    omega
  · rw [List.getElem?_eq_none (by omega)]; exact Int.le_refl _
theorem daysT_le {m : Mill} (hch : checkE m = 0) (t : Nat → Bool) : ∀ r, daysT m t r ≤ (r.map m.dys).sum
  | [] => by simp [daysT]
  | k :: r => by
    have h1 := daysT_le hch t r
    have h2 := dys_nonneg hch k
    unfold daysT at h1 ⊢
    simp only [List.map_cons, List.sum_cons]
    split <;> omega
theorem ints_mem {l : List Nat} {x : Int} : x ∈ ints l ↔ ∃ k, k ∈ l ∧ (k : Int) = x := by unfold ints; exact List.mem_map
theorem rising_snoc {l : List Int} {x : Int} (h : risingB l = true) (hx : ∀ y, y ∈ l → y < x) : risingB (l ++ [x]) = true := by
  rw [risingB_iff] at h ⊢
  intro i h1 h2
  rw [List.length_append, List.length_singleton] at h2
  rcases Nat.lt_or_ge i l.length with g | g
  · rw [List.getElem?_append_left (by omega), List.getElem?_append_left g]
    exact h i h1 g
  · have : i = l.length := by omega
    subst this
    rw [List.getElem?_append_left (by omega), List.getElem?_append_right (Nat.le_refl _), Nat.sub_self]
    have hlt : l.length - 1 < l.length := by omega
    rw [List.getElem?_eq_getElem hlt]
    exact hx _ (List.getElem_mem hlt)
/-- what an order of a mill of L looms must be -/
structure OrdOk (L : Nat) (o : Ord) : Prop where
  pat : 0 ≤ o.pattern ∧ o.pattern ≤ 9
  dys : 1 ≤ o.days ∧ o.days ≤ 20
  byy : 1 ≤ o.by_ ∧ o.by_ ≤ 99
  ne : o.on ≠ []
  on : ∀ x, x ∈ o.on → 0 ≤ x ∧ x < L
  up : risingB o.on = true
structure MillOk (m : Mill) : Prop where
  looms : 1 ≤ m.laced.length ∧ m.laced.length ≤ 3
  few : m.orders.length ≤ 7
  laced : ∀ x, x ∈ m.laced → -1 ≤ x ∧ x ≤ 9
  change : 0 ≤ m.change ∧ m.change ≤ 5
  ords : ∀ o, o ∈ m.orders → OrdOk m.laced.length o
theorem check_iff (m : Mill) : checkE m = 0 ↔ MillOk m := by
  constructor
  · intro h
    have h0 := check_len h
    obtain ⟨h1, h2⟩ := check_orders h
    unfold checkE at h
    split at h
    · cases h
    split at h
    · cases h
    · rename_i g2
      split at h
      · cases h
      split at h
      · cases h
      · rename_i g4
        split at h
        · cases h
        · rename_i g5
          split at h
          · cases h
          · rename_i g6
            simp only [not_or, Bool.not_eq_false, List.all_eq_true] at g2 g4 g5 g6
            refine ⟨⟨h0.1, h0.2.1⟩, h0.2.2, fun x hx => ?_, h2, fun o ho => ⟨(h1 o ho).1, (h1 o ho).2.1, (h1 o ho).2.2, ?_, fun x hx => ?_, g6 o ho⟩⟩
            · have := g2.1 x hx
              unfold inB at this; simp at this; omega
            · have := g4 o ho
              intro e; rw [e] at this; simp at this
            · have := g5 o ho x hx
              unfold inB at this; simp at this; omega
  · intro ⟨h1, h2, h3, h4, h5⟩
    unfold checkE
    rw [if_neg, if_neg, if_neg, if_neg, if_neg, if_neg]
    · rw [Bool.not_eq_false, List.all_eq_true]; exact fun o ho => (h5 o ho).up
    · rw [Bool.not_eq_false, List.all_eq_true]
      intro o ho
      rw [List.all_eq_true]
      intro x hx
      have := (h5 o ho).on x hx
      unfold inB; simp; omega
    · rw [Bool.not_eq_false, List.all_eq_true]
      intro o ho
      have := (h5 o ho).ne
      simpa using List.length_pos_iff.2 this
    · rw [Bool.not_eq_false, List.all_eq_true]
      intro o ho
      obtain ⟨g1, g2, g3, _⟩ := h5 o ho
      unfold inB; simp; omega
    · rw [not_or, Bool.not_eq_false, Bool.not_eq_false, List.all_eq_true]
      refine ⟨fun x hx => ?_, ?_⟩
      · have := h3 x hx; unfold inB; simp; omega
      · unfold inB; simp; omega
    · rw [not_or, Bool.not_eq_false]
      refine ⟨?_, by omega⟩
      unfold inB; simp; omega
end Go.Proofs.Pet

namespace Go.Proofs.Pet
open Go

def okW (m : Mill) (n : Nat) (xs : List Int) : Bool := (xs.all fun k => inB k 0 (m.orders.length - 1)) && !twiceB xs && (xs.all fun k => weavesI m n k) && tmR m n (rvI xs)
theorem twiceB_iff (xs : List Int) : twiceB xs = false ↔ xs.Nodup := ⟨nodup_of_twice, twice_of_nodup⟩
theorem twiceB_snoc (xs : List Int) (x : Int) : twiceB (xs ++ [x]) = (twiceB xs || xs.contains x) := by
  rw [Bool.eq_iff_iff, ← Bool.not_eq_false, ← Bool.not_eq_false, Bool.or_eq_false_iff, twiceB_iff, twiceB_iff, List.nodup_append]
  simp only [List.nodup_cons, List.not_mem_nil, not_false_eq_true, List.nodup_nil, and_self, true_and, List.mem_singleton]
  constructor
  · intro h1 h2
    apply h1
    refine ⟨h2.1, fun a ha b hb => ?_⟩
    subst hb
    intro e
    subst e
    have := h2.2
    rw [List.contains_iff_mem.2 ha] at this
    cases this
  · intro h1 h2
    apply h1
    refine ⟨h2.1, ?_⟩
    rw [← Bool.not_eq_true, List.contains_iff_mem]
    intro hm
    exact h2.2 x hm x rfl rfl
theorem okW_succ (m : Mill) (n : Nat) {xs : List Int} {i : Nat} (hi : i < xs.length) : okW m n (xs.take (i + 1)) =
    (okW m n (xs.take i) && inB (xs[i]?.getD 0) 0 (m.orders.length - 1) && !(xs.take i).contains (xs[i]?.getD 0) && weavesI m n (xs[i]?.getD 0) && decide (dyR m n (rvI (xs.take (i + 1))) ≤ m.byy (xs[i]?.getD 0).toNat)) := by
  have ht : xs.take (i + 1) = xs.take i ++ [xs[i]?.getD 0] := by rw [List.take_succ_eq_append_getElem hi]; simp [hi]
  unfold okW
  rw [all_take_snoc xs _ hi, all_take_snoc xs _ hi]
  have h3 : twiceB (xs.take (i + 1)) = (twiceB (xs.take i) || (xs.take i).contains (xs[i]?.getD 0)) := by rw [ht, twiceB_snoc]
  have h4 : tmR m n (rvI (xs.take (i + 1))) = (tmR m n (rvI (xs.take i)) && decide (dyR m n (rvI (xs.take (i + 1))) ≤ m.byy (xs[i]?.getD 0).toNat)) := by rw [rvI_take hi]; rfl
  rw [h3, h4]
  cases (xs.take i).all (fun k => inB k 0 (m.orders.length - 1)) <;> cases inB (xs[i]?.getD 0) 0 (m.orders.length - 1) <;> cases twiceB (xs.take i) <;> cases (xs.take i).contains (xs[i]?.getD 0) <;> cases (xs.take i).all (fun k => weavesI m n k) <;> cases weavesI m n (xs[i]?.getD 0) <;> cases tmR m n (rvI (xs.take i)) <;> rfl
theorem okW_pre (m : Mill) (n : Nat) (xs : List Int) : ∀ d i, i + d = xs.length → okW m n (xs.take i) = false → okW m n xs = false
  | 0, i, h, hf => by rwa [show i = xs.length by omega, List.take_length] at hf
  | d + 1, i, h, hf => okW_pre m n xs d (i + 1) (by omega) (by rw [okW_succ m n (by omega), hf]; rfl)
theorem okW_nil (m : Mill) (n : Nat) : okW m n [] = true := rfl
end Go.Proofs.Pet
