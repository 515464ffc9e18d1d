/-
  What the laws' own test of a plan answers. No program is named here.
  Plans, whatever table there is: a run for each loom. What is least over them; what becomes of them if a mill is turned into another one. No program is named here.
  How few changes, and how few orders late, by plans of whatever kind. No program is named here.
  A mill of which an order may be woven later, or on one loom more, or whose changes take fewer days. No program is named here.
-/
import Derived.Lib.SlicesCompact
import Derived.Test.YtfglamdbnclcaaaGreatOA
import Derived.Test.YtfglamdbnclcaaaGreatV2
import Derived.Test.YtfglamdbnclcaaaGreatO9
namespace Go.Proofs.Pet
open Go

theorem compact_len {xs : List Int} (hs : xs.Pairwise (· ≤ ·)) : (Lib.compact xs).length = xs.length ↔ xs.Nodup := by
  have h0 : (Lib.compact xs).length = xs.length ↔ ∀ j, j < xs.length → Lib.keeps xs.toArray j = true := by
    unfold Lib.compact Lib.compactUpTo
    rw [List.length_map]
    have h := List.length_filter_eq_length_iff (p := Lib.keeps xs.toArray) (l := List.range xs.length)
    rw [List.length_range] at h
    rw [h]
    simp
  rw [h0]
  have hk : ∀ j (hj : j < xs.length), Lib.keeps xs.toArray j = decide (j = 0 ∨ xs[j] ≠ xs[j - 1]'(by omega)) := fun j hj => by
    unfold Lib.keeps
    rw [getElem!_pos xs.toArray j (by simpa using hj), getElem!_pos xs.toArray (j - 1) (by simp; omega)]
    simp
  rw [List.pairwise_iff_getElem] at hs
  constructor
  · intro h
    rw [List.nodup_iff_pairwise_ne, List.pairwise_iff_getElem]
    intro i j hi hj hij e
    have h1 := h j hj
    rw [hk j hj, decide_eq_true_eq] at h1
    rcases h1 with h1 | h1
    · omega
    · have h2 := hs (j - 1) j (by omega) hj (by omega)
      rcases Nat.lt_or_ge i (j - 1) with h3 | h3
      · have h4 := hs i (j - 1) hi (by omega) h3
        omega
      · obtain rfl : i = j - 1 := by omega
        exact h1 e.symm
  · intro h j hj
    rw [hk j hj, decide_eq_true_eq]
    rcases Nat.eq_zero_or_pos j with h1 | h1
    · exact .inl h1
    · refine .inr fun e => ?_
      rw [List.nodup_iff_pairwise_ne, List.pairwise_iff_getElem] at h
      exact h (j - 1) j (by omega) hj (by omega) e.symm
theorem sorted_pw (xs : List Int) : (xs.mergeSort fun x y => decide (x ≤ y)).Pairwise (· ≤ ·) :=
  (List.pairwise_mergeSort (fun a b c h1 h2 => by simp only [decide_eq_true_eq] at *; omega) (fun a b => by simp only [Bool.or_eq_true, decide_eq_true_eq]; omega) xs).imp fun {a b} h => by simpa using h
theorem compact_sorted (xs : List Int) : (Lib.compact (xs.mergeSort fun x y => decide (x ≤ y))).length = xs.length ↔ xs.Nodup := by
  have h1 := compact_len (sorted_pw xs)
  rw [List.length_mergeSort] at h1
  rw [h1]
  exact (List.mergeSort_perm xs _).nodup_iff
/-- each loom's run is one, in time -/
def keptB (m : Mill) (rows : List (List Int)) : Bool := decide (rows.length = m.laced.length) && (List.range rows.length).all fun i => okW m i (rows[i]?.getD [])
/-- and each order is in one of them -/
def keptQ (m : Mill) (rows : List (List Int)) : Bool := keptB m rows && (decide rows.flatten.Nodup && decide (rows.flatten.length = m.orders.length))
theorem keptB_iff {m : Mill} {rows : List (List Int)} : keptB m rows = true ↔ rows.length = m.laced.length ∧ ∀ i, i < rows.length → okW m i (rows[i]?.getD []) = true := by
  unfold keptB
  rw [Bool.and_eq_true, decide_eq_true_eq, List.all_eq_true]
  simp
theorem keptB_false {m : Mill} {rows : List (List Int)} {i : Nat} (hi : i < rows.length) (h : okW m i (rows[i]?.getD []) = false) : keptB m rows = false := by
  rw [← Bool.not_eq_true, keptB_iff]
  intro h2
  rw [h2.2 i hi] at h
  cases h
theorem okW_iff {m : Mill} {n : Nat} {xs : List Int} : okW m n xs = true ↔ (∀ x, x ∈ xs → 0 ≤ x ∧ x < m.orders.length) ∧ xs.Nodup ∧ (∀ x, x ∈ xs → weavesI m n x = true) ∧ tmR m n (rvI xs) = true := by
  unfold okW
  simp only [Bool.and_eq_true, List.all_eq_true, Bool.not_eq_true', twiceB_iff, and_assoc, inB, decide_eq_true_eq]
  constructor
  · rintro ⟨h1, h2, h3, h4⟩
    exact ⟨fun x hx => by have := h1 x hx; omega, h2, h3, h4⟩
  · rintro ⟨h1, h2, h3, h4⟩
    exact ⟨fun x hx => by have := h1 x hx; omega, h2, h3, h4⟩
theorem PlanIsOk.kept {m : Mill} {rows : List (List Int)} (h : PlanIsOk m rows) : keptQ m rows = true := by
  obtain ⟨h1, h2, h3, h4⟩ := plE_ok h.pl
  have hnd : rows.flatten.Nodup := h.perm.symm.nodup_iff.1 (nodup_ints List.nodup_range)
  unfold keptQ
  rw [Bool.and_eq_true, Bool.and_eq_true, decide_eq_true_eq, decide_eq_true_eq, keptB_iff]
  refine ⟨⟨h.len, fun i hi => okW_iff.2 ⟨h.rng i hi, ?_, ?_, h.tm i hi⟩⟩, hnd, h.all⟩
  · rw [List.nodup_iff_pairwise_ne, List.pairwise_flatten] at hnd
    rw [List.nodup_iff_pairwise_ne]
    exact hnd.1 _ (by simp [hi])
  · intro x hx
    unfold weavesAll at h4
    have := List.all_eq_true.1 h4 i (List.mem_range.2 hi)
    exact List.all_eq_true.1 this x hx
end Go.Proofs.Pet

namespace Go.Proofs.Pet
open Go

/-- the set of some numbers -/
def setN (r : List Nat) : Nat := r.foldl (fun s k => s ||| 2 ^ k) 0
theorem setN_snoc (r : List Nat) (k : Nat) : setN (r ++ [k]) = setN r ||| 2 ^ k := by unfold setN; rw [List.foldl_append]; rfl
theorem setN_bit (j : Nat) : ∀ n (r : List Nat), r.length = n → ((setN r).testBit j = true ↔ j ∈ r)
  | 0, r, h => by
    have : r = [] := List.length_eq_zero_iff.1 h
    subst this; simp [setN]
  | n + 1, r, h => by
    have hne : r ≠ [] := fun e => by rw [e] at h; cases h
    have ih := setN_bit j n r.dropLast (by simp [h])
    have e := List.dropLast_concat_getLast hne
    rw [← e, setN_snoc, Nat.testBit_or, Bool.or_eq_true, ih, Nat.testBit_two_pow, decide_eq_true_eq, List.mem_append, List.mem_singleton]
    exact or_congr Iff.rfl eq_comm
theorem setN_mem {r : List Nat} {j : Nat} : (setN r).testBit j = true ↔ j ∈ r := setN_bit j _ r rfl
theorem setN_is {r : List Nat} (h : r.Nodup) : IsSet (setN r) r := ⟨h, fun _ => setN_mem.symm⟩
theorem setN_lt {r : List Nat} {n : Nat} (h : ∀ j, j ∈ r → j < n) : setN r < 2 ^ n := by
  refine Nat.lt_pow_two_of_testBit _ fun i hi => ?_
  rw [Bool.eq_false_iff]
  intro e
  have := h i (setN_mem.1 e)
  omega
theorem setN_bits {r : List Nat} {n : Nat} (hn : r.Nodup) (h : ∀ j, j ∈ r → j < n) : (bits n (setN r)).Perm r := ((isSet_perm (setN_lt h) r).1 (setN_is hn)).symm

/-- a run for each loom; the orders of S, each once -/
structure PlanOf (m : Mill) (S : Nat → Prop) (R : Nat → List Nat) : Prop where
  nodup : ∀ i, i < m.laced.length → (R i).Nodup
  mem : ∀ i, i < m.laced.length → ∀ j, j ∈ R i → j < m.orders.length ∧ m.weaves i j = true
  tm : ∀ i, i < m.laced.length → tmR m i (R i) = true
  all : ∀ j, S j ↔ ∃ i, i < m.laced.length ∧ j ∈ R i
  once : ∀ i i' j, i < m.laced.length → i' < m.laced.length → j ∈ R i → j ∈ R i' → i = i'
/-- its changes -/
def totC (m : Mill) (R : Nat → List Nat) : Nat → Int
  | 0 => 0
  | n + 1 => totC m R n + chR m n (R n)
theorem totC_sum (m : Mill) (R : Nat → List Nat) : ∀ n, totC m R n = ((List.range n).map fun i => chR m i (R i)).sum
  | 0 => rfl
  | n + 1 => by rw [totC, totC_sum m R n, List.range_succ, List.map_append, List.sum_append]; simp
theorem tot_le {t t' : Nat → Nat → Int} {f f' : Nat → Nat} : ∀ n, (∀ i, i < n → t i (f i) ≤ t' i (f' i)) → tot t f n ≤ tot t' f' n
  | 0, _ => Int.le_refl _
  | n + 1, h => by
    have := tot_le n (fun i hi => h i (by omega))
    have := h n (by omega)
    rw [tot, tot]; omega
theorem totC_tot (m : Mill) (R : Nat → List Nat) : ∀ n, totC m R n = tot (fun i _ => chR m i (R i)) (fun _ => 0) n
  | 0 => rfl
  | n + 1 => by rw [totC, totC_tot m R n]; rfl
theorem PlanOf.le {m : Mill} (hch : checkE m = 0) {s : Nat} {S : Nat → Prop} (hS : ∀ j, S j ↔ s.testBit j = true) {R : Nat → List Nat} (h : PlanOf m S R) : sumF (numC m) m.laced.length s ≤ totC m R m.laced.length ∧ sumF (numC m) m.laced.length s < 297 := by
  obtain ⟨l1, l2, l3⟩ := check_len hch
  have hlt : ∀ i, i < m.laced.length → setN (R i) < 2 ^ m.orders.length := fun i hi => setN_lt fun j hj => (h.mem i hi j hj).1
  have hle : ∀ i, i < m.laced.length → numC m i (setN (R i)) ≤ chR m i (R i) := fun i hi =>
    numC_le m i _ (check_change hch) (hlt i hi) l3 (R i) (setN_is (h.nodup i hi)) (fun j hj => (h.mem i hi j hj).2) (h.tm i hi)
  have h99 : ∀ i, i < m.laced.length → numC m i (setN (R i)) < 99 := fun i hi => by
    have h1 := (chR_bd m i (R i)).2
    have h2 := (setN_bits (h.nodup i hi) fun j hj => (h.mem i hi j hj).1).length_eq
    have h3 := bits_len m.orders.length (setN (R i))
    have := hle i hi
    omega
  have hP : Part (numC m) m.laced.length s (tot (numC m) (fun i => setN (R i)) m.laced.length) := by
    refine ⟨fun i => setN (R i), h99, rfl, fun b => ?_, fun i j b hi hj h1 h2 => h.once i j b hi hj (setN_mem.1 h1) (setN_mem.1 h2)⟩
    rw [← hS b, h.all b]
    simp only [setN_mem]
  have h1 := (sumF_least (numC m) (fun l s => (numC_bd m l s).1) m.laced.length s (by omega)).1 _ hP
  have h2 := tot_bd (numC m) (fun i => setN (R i)) m.laced.length h99
  have h3 : tot (numC m) (fun i => setN (R i)) m.laced.length ≤ totC m R m.laced.length := by
    rw [totC_tot]
    exact tot_le _ fun i hi => hle i hi
  exact ⟨by omega, by omega⟩
theorem PlanOf.has {m : Mill} (hch : checkE m = 0) {s : Nat} (hs : s < 2 ^ m.orders.length) {S : Nat → Prop} (hS : ∀ j, S j ↔ s.testBit j = true) (h : sumF (numC m) m.laced.length s < 297) : ∃ R, PlanOf m S R ∧ totC m R m.laced.length = sumF (numC m) m.laced.length s := by
  obtain ⟨l1, l2, l3⟩ := check_len hch
  obtain ⟨f, h1, h2, h3, h4⟩ := (sumF_least (numC m) (fun l s => (numC_bd m l s).1) m.laced.length s (by omega)).2 h
  have hlt : ∀ i, i < m.laced.length → f i < 2 ^ m.orders.length := fun i hi => by
    refine Nat.lt_pow_two_of_testBit _ fun j hj => ?_
    rw [Bool.eq_false_iff]
    intro e
    have := (h3 j).2 ⟨i, hi, e⟩
    rw [Nat.testBit_lt_two_pow (Nat.lt_of_lt_of_le hs (Nat.pow_le_pow_right (by omega) hj))] at this
    cases this
  have hr : ∀ i, ∃ r, i < m.laced.length → IsSet (f i) r ∧ (∀ j, j ∈ r → m.weaves i j = true) ∧ tmR m i r = true ∧ chR m i r = numC m i (f i) := fun i => by
    by_cases hi : i < m.laced.length
    · obtain ⟨r, g⟩ := numC_has m i (f i) (hlt i hi) l3 (h1 i hi)
      exact ⟨r, fun _ => g⟩
    · exact ⟨[], fun h => absurd h hi⟩
  refine ⟨fun i => (hr i).choose, ⟨fun i hi => ((hr i).choose_spec hi).1.1, fun i hi j hj => ⟨?_, ((hr i).choose_spec hi).2.1 j hj⟩, fun i hi => ((hr i).choose_spec hi).2.2.1, fun j => ?_, fun i i' j hi hi' g g' => ?_⟩, ?_⟩
  · have := (((hr i).choose_spec hi).1.2 j).1 hj
    rcases Nat.lt_or_ge j m.orders.length with h5 | h5
    · exact h5
    · rw [Nat.testBit_lt_two_pow (Nat.lt_of_lt_of_le (hlt i hi) (Nat.pow_le_pow_right (by omega) h5))] at this
      cases this
  · rw [hS j, h3 j]
    constructor
    · rintro ⟨i, hi, hb⟩
      exact ⟨i, hi, (((hr i).choose_spec hi).1.2 j).2 hb⟩
    · rintro ⟨i, hi, hb⟩
      exact ⟨i, hi, (((hr i).choose_spec hi).1.2 j).1 hb⟩
  · exact h4 i i' j hi hi' ((((hr i).choose_spec hi).1.2 j).1 g) ((((hr i').choose_spec hi').1.2 j).1 g')
  · rw [h2, totC_tot]
    have : ∀ n, n ≤ m.laced.length → tot (fun i _ => chR m i ((hr i).choose)) (fun _ => 0) n = tot (numC m) f n := fun n => by
      induction n with
      | zero => intro _; rfl
      | succ n ih =>
        intro hn
        rw [tot, tot, ih (by omega), ((hr n).choose_spec (by omega)).2.2.2]
    exact this _ (Nat.le_refl _)

/-! A run without some of its orders. -/
theorem chg_tri (a b c : Int) : chg a c ≤ chg a b + chg b c := by
  unfold chg
  by_cases h1 : a = b <;> by_cases h2 : b = c <;> by_cases h3 : a = c <;> simp_all
theorem chR_filter (m : Mill) (l : Nat) (p : Nat → Bool) : ∀ r, chR m l (r.filter p) + chg (lastPat m l (r.filter p)) (lastPat m l r) ≤ chR m l r
  | [] => by simp [chR, lastPat, chg]
  | k :: r => by
    have ih := chR_filter m l p r
    have ht := chg_tri (lastPat m l (r.filter p)) (lastPat m l r) (m.pat k)
    rw [List.filter_cons]
    split
    · have h0 : chg (lastPat m l (k :: r.filter p)) (lastPat m l (k :: r)) = 0 := by simp [lastPat, chg]
      rw [h0, chR, chR]
      omega
    · rw [chR]
      show _ + chg _ (m.pat k) ≤ _
      omega
theorem sdR_filter {m : Mill} (p : Nat → Bool) : ∀ r, (∀ j, j ∈ r → 0 ≤ m.dys j) → sdR m (r.filter p) ≤ sdR m r
  | [], _ => Int.le_refl _
  | k :: r, h => by
    have ih := sdR_filter p r (fun j hj => h j (by simp [hj]))
    have := h k (by simp)
    rw [List.filter_cons]
    split
    · rw [sdR, sdR]; omega
    · rw [sdR]; omega
theorem dyR_filter {m : Mill} (hc : 0 ≤ m.change) (l : Nat) (p : Nat → Bool) (r : List Nat) (h : ∀ j, j ∈ r → 0 ≤ m.dys j) : dyR m l (r.filter p) ≤ dyR m l r := by
  rw [dyR_eq, dyR_eq]
  have h1 := sdR_filter p r h
  have h2 := chR_filter m l p r
  have h3 := (chg_bd (lastPat m l (r.filter p)) (lastPat m l r)).1
  have h4 : m.change * chR m l (r.filter p) ≤ m.change * chR m l r := Int.mul_le_mul_of_nonneg_left (by omega) hc
  omega
theorem tmR_filter {m : Mill} (hc : 0 ≤ m.change) (l : Nat) (p : Nat → Bool) : ∀ r, (∀ j, j ∈ r → 0 ≤ m.dys j) → tmR m l r = true → tmR m l (r.filter p) = true
  | [], _, _ => rfl
  | k :: r, h, ht => by
    have hd := dyR_filter hc l p (k :: r) h
    rw [tmR, Bool.and_eq_true, decide_eq_true_eq] at ht
    have ih := tmR_filter hc l p r (fun j hj => h j (by simp [hj])) ht.1
    rw [List.filter_cons] at hd ⊢
    split
    · rename_i hp
      rw [if_pos hp] at hd
      rw [tmR, ih, Bool.true_and, decide_eq_true_eq]
      omega
    · exact ih
theorem totC_le {m m' : Mill} {R R' : Nat → List Nat} : ∀ n, (∀ i, i < n → chR m i (R i) ≤ chR m' i (R' i)) → totC m R n ≤ totC m' R' n
  | 0, _ => Int.le_refl _
  | n + 1, h => by
    have := totC_le n (fun i hi => h i (by omega))
    have := h n (by omega)
    rw [totC, totC]; omega
theorem PlanOf.filter {m : Mill} (hok : MillOk m) {S : Nat → Prop} {R : Nat → List Nat} (h : PlanOf m S R) (p : Nat → Bool) : PlanOf m (fun j => S j ∧ p j = true) (fun i => (R i).filter p) ∧ totC m (fun i => (R i).filter p) m.laced.length ≤ totC m R m.laced.length := by
  have hd : ∀ i, i < m.laced.length → ∀ j, j ∈ R i → 0 ≤ m.dys j := fun i hi j hj => by
    have := (hok.ords (m.orders[j]?.getD default) (by simp [(h.mem i hi j hj).1])).dys
    unfold Mill.dys; omega
  refine ⟨⟨fun i hi => (h.nodup i hi).filter _, fun i hi j hj => h.mem i hi j (List.mem_filter.1 hj).1, fun i hi => tmR_filter hok.change.1 i p _ (hd i hi) (h.tm i hi), fun j => ?_, fun i i' j hi hi' g g' => h.once i i' j hi hi' (List.mem_filter.1 g).1 (List.mem_filter.1 g').1⟩, totC_le _ fun i hi => ?_⟩
  · rw [h.all j]
    constructor
    · rintro ⟨⟨i, hi, hj⟩, hp⟩
      exact ⟨i, hi, List.mem_filter.2 ⟨hj, hp⟩⟩
    · rintro ⟨i, hi, hj⟩
      exact ⟨⟨i, hi, (List.mem_filter.1 hj).1⟩, (List.mem_filter.1 hj).2⟩
  · have h1 := chR_filter m i p (R i)
    have h2 := (chg_bd (lastPat m i ((R i).filter p)) (lastPat m i (R i))).1
    omega
/-- what makes a plan of one mill a plan of another: loom i has loom (g i)'s run, order j is called f j -/
structure Morph (m u : Mill) (g f : Nat → Nat) : Prop where
  looms : u.laced.length = m.laced.length
  perm : ((List.range m.laced.length).map g).Perm (List.range m.laced.length)
  inj : ∀ a b, a < m.orders.length → b < m.orders.length → f a = f b → a = b
  lt : ∀ a, a < m.orders.length → f a < u.orders.length
  wv : ∀ i, i < m.laced.length → ∀ j, j < m.orders.length → m.weaves (g i) j = true → u.weaves i (f j) = true
  ch : ∀ i, i < m.laced.length → ∀ r, (∀ j, j ∈ r → j < m.orders.length) → chR u i (r.map f) = chR m (g i) r
  tm : ∀ i, i < m.laced.length → ∀ r, (∀ j, j ∈ r → j < m.orders.length) → tmR m (g i) r = true → tmR u i (r.map f) = true
theorem nodup_map_in {f : Nat → Nat} {n : Nat} (hf : ∀ a b, a < n → b < n → f a = f b → a = b) : ∀ {r : List Nat}, (∀ j, j ∈ r → j < n) → r.Nodup → (r.map f).Nodup
  | [], _, _ => List.nodup_nil
  | k :: r, h, hn => by
    rw [List.nodup_cons] at hn
    rw [List.map_cons, List.nodup_cons]
    refine ⟨fun hk => ?_, nodup_map_in hf (fun j hj => h j (by simp [hj])) hn.2⟩
    obtain ⟨x, hx, e⟩ := List.mem_map.1 hk
    have := hf x k (h x (by simp [hx])) (h k (by simp)) e
    subst this
    exact hn.1 hx
theorem PlanOf.map {m u : Mill} {g f : Nat → Nat} (M : Morph m u g f) {S : Nat → Prop} {R : Nat → List Nat} (h : PlanOf m S R) :
    PlanOf u (fun k => ∃ j, S j ∧ f j = k) (fun i => (R (g i)).map f) ∧ totC u (fun i => (R (g i)).map f) u.laced.length = totC m R m.laced.length := by
  have hg : ∀ i, i < m.laced.length → g i < m.laced.length := fun i hi => List.mem_range.1 (M.perm.mem_iff.1 (List.mem_map.2 ⟨i, List.mem_range.2 hi, rfl⟩))
  have hginj : ∀ i i', i < m.laced.length → i' < m.laced.length → g i = g i' → i = i' := fun i i' hi hi' e => by
    have hn : ((List.range m.laced.length).map g).Nodup := M.perm.symm.nodup_iff.1 List.nodup_range
    rw [List.nodup_iff_pairwise_ne, List.pairwise_map, List.pairwise_iff_getElem] at hn
    simp only [List.getElem_range, List.length_range] at hn
    rcases Nat.lt_trichotomy i i' with h1 | h1 | h1
    · exact absurd e (hn i i' hi hi' h1)
    · exact h1
    · exact absurd e.symm (hn i' i hi' hi h1)
  have hrl : ∀ i, i < m.laced.length → ∀ j, j ∈ R i → j < m.orders.length := fun i hi j hj => (h.mem i hi j hj).1
  refine ⟨⟨fun i hi => ?_, fun i hi k hk => ?_, fun i hi => ?_, fun k => ?_, fun i i' k hi hi' g1 g2 => ?_⟩, ?_⟩
  · rw [M.looms] at hi
    exact nodup_map_in M.inj (hrl _ (hg i hi)) (h.nodup _ (hg i hi))
  · rw [M.looms] at hi
    obtain ⟨j, hj, rfl⟩ := List.mem_map.1 hk
    have := h.mem _ (hg i hi) j hj
    exact ⟨M.lt j this.1, M.wv i hi j this.1 this.2⟩
  · rw [M.looms] at hi
    exact M.tm i hi _ (hrl _ (hg i hi)) (h.tm _ (hg i hi))
  · constructor
    · rintro ⟨j, hj, rfl⟩
      obtain ⟨i, hi, hji⟩ := (h.all j).1 hj
      have hm : i ∈ (List.range m.laced.length).map g := M.perm.mem_iff.2 (List.mem_range.2 hi)
      obtain ⟨i', hi', rfl⟩ := List.mem_map.1 hm
      exact ⟨i', by rw [M.looms]; exact List.mem_range.1 hi', List.mem_map.2 ⟨j, hji, rfl⟩⟩
    · rintro ⟨i, hi, hk⟩
      rw [M.looms] at hi
      obtain ⟨j, hj, rfl⟩ := List.mem_map.1 hk
      exact ⟨j, (h.all j).2 ⟨g i, hg i hi, hj⟩, rfl⟩
  · rw [M.looms] at hi hi'
    obtain ⟨j, hj, rfl⟩ := List.mem_map.1 g1
    obtain ⟨j', hj', e⟩ := List.mem_map.1 g2
    have := M.inj j' j (hrl _ (hg i' hi') _ hj') (hrl _ (hg i hi) _ hj) e
    subst this
    exact hginj i i' hi hi' (h.once _ _ j' (hg i hi) (hg i' hi') hj hj')
  · rw [totC_sum, totC_sum, M.looms]
    have h1 : ((List.range m.laced.length).map fun i => chR u i ((R (g i)).map f)) = ((List.range m.laced.length).map g).map fun i => chR m i (R i) := by
      rw [List.map_map]
      refine List.map_congr_left fun i hi => ?_
      have hi := List.mem_range.1 hi
      exact M.ch i hi _ (hrl _ (hg i hi))
    rw [h1]
    exact sum_perm (M.perm.map _)
end Go.Proofs.Pet

namespace Go.Proofs.Pet
open Go

/-- the orders that are not put off have a plan -/
def Feas (m : Mill) (off : Nat) : Prop := ∃ R, PlanOf m (fun j => j < m.orders.length ∧ off.testBit j = false) R
theorem sdiff_full {n off j : Nat} : (sdiff (2 ^ n - 1) off).testBit j = true ↔ j < n ∧ off.testBit j = false := by
  rw [testBit_sdiff, Nat.testBit_two_pow_sub_one]; simp
theorem feas_iff {m : Mill} (hch : checkE m = 0) (off : Nat) : Feas m off ↔ sumF (numC m) m.laced.length (sdiff (2 ^ m.orders.length - 1) off) < 297 := by
  have hlt : sdiff (2 ^ m.orders.length - 1) off < 2 ^ m.orders.length := by have := sdiff_le (2 ^ m.orders.length - 1) off; have := Nat.two_pow_pos m.orders.length; omega
  constructor
  · rintro ⟨R, h⟩
    exact (PlanOf.le hch (fun j => sdiff_full.symm) h).2
  · intro h
    obtain ⟨R, h1, _⟩ := PlanOf.has hch hlt (fun j => sdiff_full.symm) h
    exact ⟨R, h1⟩
theorem full_zero {n : Nat} : sdiff (2 ^ n - 1) 0 = 2 ^ n - 1 := by
  apply Nat.eq_of_testBit_eq
  intro i
  rw [testBit_sdiff, Nat.zero_testBit]; simp
theorem planF_feas {m : Mill} (hch : checkE m = 0) : planF m = none ↔ ¬ Feas m 0 := by
  rw [feas_iff hch, full_zero]
  unfold planF
  split <;> simp <;> omega
/-- the fewest changes, if there is a plan -/
theorem few_feas {m : Mill} (hch : checkE m = 0) (h : Feas m 0) : ∃ R, PlanOf m (fun j => j < m.orders.length) R ∧ totC m R m.laced.length = fewR m (2 ^ m.orders.length - 1) := by
  have hlt : 2 ^ m.orders.length - 1 < 2 ^ m.orders.length := by have := Nat.two_pow_pos m.orders.length; omega
  rw [feas_iff hch, full_zero] at h
  rw [fewR_sum m hch _ hlt, if_pos h]
  exact PlanOf.has hch hlt (fun j => by rw [Nat.testBit_two_pow_sub_one, decide_eq_true_eq]) h
theorem few_le {m : Mill} (hch : checkE m = 0) {R : Nat → List Nat} (h : PlanOf m (fun j => j < m.orders.length) R) : fewR m (2 ^ m.orders.length - 1) ≤ totC m R m.laced.length := by
  have hlt : 2 ^ m.orders.length - 1 < 2 ^ m.orders.length := by have := Nat.two_pow_pos m.orders.length; omega
  obtain ⟨h1, h2⟩ := PlanOf.le hch (s := 2 ^ m.orders.length - 1) (fun j => by rw [Nat.testBit_two_pow_sub_one, decide_eq_true_eq]) h
  rw [fewR_sum m hch _ hlt, if_pos h2]
  exact h1
theorem feas_all (m : Mill) : Feas m (2 ^ m.orders.length - 1) := by
  refine ⟨fun _ => [], fun _ _ => List.nodup_nil, fun _ _ j hj => by simp at hj, fun _ _ => rfl, fun j => ?_, fun _ _ j _ _ hj => by simp at hj⟩
  rw [Nat.testBit_two_pow_sub_one]
  constructor
  · rintro ⟨h1, h2⟩
    simp at h2; omega
  · rintro ⟨i, _, hj⟩
    simp at hj
/-- the orders that are late -/
def lateL (m : Mill) : List Int := (lateS m).getD []
end Go.Proofs.Pet

namespace Go.Proofs.Pet
open Go

/-- u lets all that m lets -/
structure Eased (m u : Mill) : Prop where
  laced : u.laced = m.laced
  len : u.orders.length = m.orders.length
  change : 0 ≤ u.change ∧ u.change ≤ m.change
  ords : ∀ k, k < m.orders.length → (u.orders[k]?.getD default).pattern = (m.orders[k]?.getD default).pattern ∧ (u.orders[k]?.getD default).days = (m.orders[k]?.getD default).days ∧
    (m.orders[k]?.getD default).by_ ≤ (u.orders[k]?.getD default).by_ ∧ ∀ x, x ∈ (m.orders[k]?.getD default).on → x ∈ (u.orders[k]?.getD default).on
theorem Eased.pat {m u : Mill} (h : Eased m u) {k : Nat} (hk : k < m.orders.length) : u.pat k = m.pat k := (h.ords k hk).1
theorem Eased.last {m u : Mill} (h : Eased m u) (l : Nat) : ∀ r, (∀ j, j ∈ r → j < m.orders.length) → lastPat u l r = lastPat m l r
  | [], _ => by unfold lastPat; rw [h.laced]
  | k :: _, hr => h.pat (hr k (by simp))
theorem Eased.ch {m u : Mill} (h : Eased m u) (l : Nat) : ∀ r, (∀ j, j ∈ r → j < m.orders.length) → chR u l r = chR m l r
  | [], _ => rfl
  | k :: r, hr => by
    have hr' : ∀ j, j ∈ r → j < m.orders.length := fun j hj => hr j (by simp [hj])
    rw [chR, chR, h.ch l r hr', h.last l r hr', h.pat (hr k (by simp))]
theorem Eased.sd {m u : Mill} (h : Eased m u) : ∀ r, (∀ j, j ∈ r → j < m.orders.length) → sdR u r = sdR m r
  | [], _ => rfl
  | k :: r, hr => by
    have : u.dys k = m.dys k := (h.ords k (hr k (by simp))).2.1
    rw [sdR, sdR, h.sd r (fun j hj => hr j (by simp [hj])), this]
theorem Eased.dy {m u : Mill} (h : Eased m u) (l : Nat) (r : List Nat) (hr : ∀ j, j ∈ r → j < m.orders.length) : dyR u l r ≤ dyR m l r := by
  rw [dyR_eq, dyR_eq, h.sd r hr, h.ch l r hr]
  have := Int.mul_le_mul_of_nonneg_right h.change.2 (chR_bd m l r).1
  omega
/-- a mill with one order turned -/
def Mill.put (m : Mill) (k : Nat) (o : Ord) : Mill := ⟨m.laced, m.change, m.orders.set k o⟩
theorem rising_len {l : List Int} {L : Nat} (h : risingB l = true) (hb : ∀ x, x ∈ l → 0 ≤ x ∧ x < L) : l.length ≤ L := by
  rw [risingB_iff] at h
  have h1 : ∀ i, i < l.length → (i : Int) ≤ l[i]?.getD 0 := fun i => by
    induction i with
    | zero =>
      intro hi
      have := hb (l[0]?.getD 0) (by simp [hi])
      omega
    | succ i ih =>
      intro hi
      have := ih (by omega)
      have h2 := h (i + 1) (by omega) hi
      simp only [Nat.add_sub_cancel] at h2
      omega
  rcases Nat.eq_zero_or_pos l.length with h0 | h0
  · omega
  · have h2 := h1 (l.length - 1) (by omega)
    have h3 := (hb (l[l.length - 1]?.getD 0) (by simp [show l.length - 1 < l.length by omega])).2
    omega
theorem MillOk.great {m : Mill} (h : MillOk m) : greatB m = false := by
  have h1 := h.looms.2
  have h2 := h.few
  unfold greatB
  simp only [Bool.or_eq_false_iff, List.any_eq_false, decide_eq_true_eq, decide_eq_false_iff_not]
  refine ⟨⟨fun o ho => ?_, by omega⟩, by omega⟩
  have := rising_len (h.ords o ho).up (h.ords o ho).on
  omega
end Go.Proofs.Pet
