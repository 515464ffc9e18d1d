/-
  Orders of coming and what is added in them: plain laws.
-/
import Derived.Test.YtjlglbhafopomaaGreatPC3
namespace Go.Proofs.Pow
/-- the place of an element in joined lists -/
theorem idx_take {L : List Nat} {y : Nat} {t : Nat} (h : y ∈ L.take t) : L.idxOf y < t ∧ y ∈ L := by
  have h2 : L.idxOf y = (L.take t).idxOf y := by
    conv => lhs; rw [← List.take_append_drop t L]
    rw [List.idxOf_append, if_pos h]
  have := List.idxOf_lt_length_of_mem h
  rw [List.length_take] at this
  exact ⟨by omega, List.mem_of_mem_take h⟩
theorem take_idx {L : List Nat} {y t : Nat} (hy : y ∈ L) (h : L.idxOf y < t) : y ∈ L.take t := by
  have h1 := List.idxOf_lt_length_of_mem hy
  rw [List.mem_take_iff_getElem]
  exact ⟨L.idxOf y, by omega, by simp⟩
theorem find_idx (L : List Nat) (x : Nat) : (L.findIdx fun y => decide (y = x)) = L.idxOf x := by
  unfold List.idxOf
  congr 1
theorem idx_le {m : PM} (hm : POk m) {l r : List Nat} {x : Nat} (hxl : x ∈ l) (hxr : x ∈ r) (hx : x < m.wvs.length) (h : ∀ y, y ∈ l → l.idxOf y < l.idxOf x → y ∈ r ∧ r.idxOf y < r.idxOf x) :
    addF m r (r.findIdx fun y => decide (y = x)) ≤ addF m l (l.findIdx fun y => decide (y = x)) := by
  rw [find_idx, find_idx]
  have h1 := List.idxOf_lt_length_of_mem hxl
  have h2 := List.idxOf_lt_length_of_mem hxr
  refine add_le hm h1 h2 (by simp) (by simpa using hx) fun y hy => ?_
  obtain ⟨g1, g2⟩ := idx_take hy
  obtain ⟨k1, k2⟩ := h y g2 g1
  exact take_idx k1 k2
/-- who comes later adds no more, all others no less -/
theorem later_le {m : PM} (hm : POk m) {a b c : List Nat} {w : Nat} (hn : (a ++ w :: (b ++ c)).Nodup) {x : Nat} (hx : x < m.wvs.length) (hxl : x ∈ a ++ w :: (b ++ c)) :
    (x = w → addF m (a ++ b ++ w :: c) ((a ++ b ++ w :: c).findIdx fun y => decide (y = x)) ≤ addF m (a ++ w :: (b ++ c)) ((a ++ w :: (b ++ c)).findIdx fun y => decide (y = x))) ∧
    (x ≠ w → addF m (a ++ w :: (b ++ c)) ((a ++ w :: (b ++ c)).findIdx fun y => decide (y = x)) ≤ addF m (a ++ b ++ w :: c) ((a ++ b ++ w :: c).findIdx fun y => decide (y = x))) := by
  have hwa : w ∉ a := fun h => (List.nodup_append.1 hn).2.2 w h w List.mem_cons_self rfl
  have hn2 := (List.nodup_append.1 hn).2.1
  have hwbc : w ∉ b ++ c := (List.nodup_cons.1 hn2).1
  have hwb : w ∉ b := fun h => hwbc (List.mem_append.2 (.inl h))
  have hwc : w ∉ c := fun h => hwbc (List.mem_append.2 (.inr h))
  have hsame : ∀ y, y ∈ a ++ w :: (b ++ c) ↔ y ∈ a ++ b ++ w :: c := fun y => by
    simp only [List.mem_append, List.mem_cons]
    constructor
    · rintro (h | h | h | h) <;> simp [h]
    · rintro ((h | h) | h | h) <;> simp [h]
  have il : ∀ y, (a ++ w :: (b ++ c)).idxOf y = if y ∈ a then a.idxOf y else if y = w then a.length else if y ∈ b then a.length + 1 + b.idxOf y else a.length + 1 + b.length + c.idxOf y := fun y => by
    rw [List.idxOf_append]
    by_cases h1 : y ∈ a
    · rw [if_pos h1, if_pos h1]
    · rw [if_neg h1, if_neg h1, List.idxOf_cons]
      by_cases h2 : y = w
      · subst h2; simp
      · rw [if_neg h2]
        have : (w == y) = false := by simpa using fun e => h2 e.symm
        rw [this, cond_false, List.idxOf_append]
        split <;> omega
  have ir : ∀ y, (a ++ b ++ w :: c).idxOf y = if y ∈ a then a.idxOf y else if y ∈ b then a.length + b.idxOf y else if y = w then a.length + b.length else a.length + b.length + 1 + c.idxOf y := fun y => by
    rw [List.append_assoc, List.idxOf_append]
    by_cases h1 : y ∈ a
    · rw [if_pos h1, if_pos h1]
    · rw [if_neg h1, if_neg h1, List.idxOf_append]
      by_cases h3 : y ∈ b
      · rw [if_pos h3, if_pos h3]; omega
      · rw [if_neg h3, if_neg h3, List.idxOf_cons]
        by_cases h2 : y = w
        · subst h2; simp; omega
        · rw [if_neg h2]
          have : (w == y) = false := by simpa using fun e => h2 e.symm
          rw [this, cond_false]
          omega
  have la : ∀ y, y ∈ a → a.idxOf y < a.length := fun y h => List.idxOf_lt_length_of_mem h
  have lb : ∀ y, y ∈ b → b.idxOf y < b.length := fun y h => List.idxOf_lt_length_of_mem h
  constructor
  · rintro rfl
    refine idx_le hm hxl ((hsame x).1 hxl) hx fun y hy hlt => ⟨(hsame y).1 hy, ?_⟩
    rw [il, il, if_neg hwa, if_pos rfl] at hlt
    rw [ir, ir, if_neg hwa, if_neg hwb, if_pos rfl]
    by_cases h1 : y ∈ a
    · rw [if_pos h1]; have := la y h1; omega
    · rw [if_neg h1] at hlt
      split at hlt
      · omega
      · split at hlt <;> omega
  · intro hxw
    refine idx_le hm ((hsame x).1 hxl) hxl hx fun y hy hlt => ⟨(hsame y).2 hy, ?_⟩
    rw [ir, ir] at hlt
    rw [il, il]
    have := la y; have := la x; have := lb y; have := lb x
    by_cases y1 : y ∈ a <;> by_cases y2 : y ∈ b <;> by_cases y3 : y = w <;> by_cases x1 : x ∈ a <;> by_cases x2 : x ∈ b <;> simp only [y1, y2, y3, x1, x2, hxw, if_true, if_false] at * <;> first | omega | (simp_all; done) | (simp_all; omega)
/-- what all add -/
theorem addsF_sum {m : PM} {l : List Nat} (hl : l.Perm (List.range m.wvs.length)) : (addsF m l).sum = costF m fun _ => true := by
  have hn : l.Nodup := hl.symm.nodup List.nodup_range
  have h1 : (addsF m l).Perm ((List.range l.length).map (addF m l)) := by
    unfold addsF
    have h2 := (hl.symm).map fun k => addF m l (l.findIdx fun x => decide (x = k))
    refine h2.trans (List.Perm.of_eq ?_)
    apply List.ext_getElem
    · simp
    · intro i g1 g2
      simp only [List.getElem_map, List.getElem_range]
      rw [findIdx_at hn]
  have h3 : ∀ {xs ys : List Int}, xs.Perm ys → xs.sum = ys.sum := fun h => by
    induction h with
    | nil => rfl
    | cons a _ ih => simp [ih]
    | swap a b l => simp only [List.sum_cons]; omega
    | trans _ _ i1 i2 => exact i1.trans i2
  rw [h3 h1, add_total fun k hk => hl.mem_iff.2 (List.mem_range.2 hk)]
theorem addsF_nonneg {m : PM} (hm : POk m) {l : List Nat} (hl : l.Perm (List.range m.wvs.length)) : ∀ x, x ∈ addsF m l → 0 ≤ x := by
  intro x hx
  unfold addsF at hx
  obtain ⟨k, hk, rfl⟩ := List.mem_map.1 hx
  have hkl : k ∈ l := hl.mem_iff.2 hk
  rw [find_idx]
  exact addF_nonneg hm (List.idxOf_lt_length_of_mem hkl) (by simpa using hk)
theorem sum_take_le {xs : List Int} (h : ∀ x, x ∈ xs → 0 ≤ x) (j : Nat) : 0 ≤ (xs.take j).sum ∧ (xs.take j).sum ≤ xs.sum := by
  have h0 : ∀ {ys : List Int}, (∀ x, x ∈ ys → 0 ≤ x) → 0 ≤ ys.sum := fun {ys} => by
    induction ys with
    | nil => intro _; simp
    | cons a l ih =>
      intro h
      have := ih fun x hx => h x (List.mem_cons_of_mem _ hx)
      have := h a List.mem_cons_self
      rw [List.sum_cons]; omega
  have e : xs.sum = (xs.take j).sum + (xs.drop j).sum := by conv => lhs; rw [← List.take_append_drop j xs, List.sum_append]
  have h1 := h0 (ys := xs.take j) fun x hx => h x (List.mem_of_mem_take hx)
  have h2 := h0 (ys := xs.drop j) fun x hx => h x (List.mem_of_mem_drop hx)
  omega
end Go.Proofs.Pow
