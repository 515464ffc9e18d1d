/-
  The reference's ways of power: shares by all orders, the first group, shafts in all lists, the proof with the most weavers; plain lists alone.
-/
import Derived.Test.YtjlglbhafopomaaGreatSJ
namespace Go.Proofs.Pow
theorem bits_contains {n s k : Nat} (hk : k < n) : (bitsL n s).contains k = s.testBit k := by
  rw [Bool.eq_iff_iff, List.contains_iff_mem, mem_bitsL]
  exact ⟨fun h => h.2, fun h => ⟨hk, h⟩⟩
/-- what the group of a number's bits costs -/
theorem bits_cost (m : PM) (s : Nat) : costF m (fun k => (bitsL m.wvs.length s).contains k) = costH m.wvs.length (spots m) s := by
  rw [costH_costQ]
  exact costQ_congr fun k hk => bits_contains hk
theorem cost_bd {m : PM} (hm : POk m) (p : Nat → Bool) : 0 ≤ costF m p ∧ costF m p ≤ 12960 := by
  have h0 : 0 ≤ costF m p := costQ_nonneg hm.spots p
  have h1 : costF m p ≤ costF m fun _ => true := costQ_mono hm.spots fun _ _ _ => rfl
  have h2 := hm.total
  have h3 : ((List.range m.wvs.length).map (shareP m)).sum ≤ ((List.range m.wvs.length).map fun _ => (777600 : Int)).sum := sum_le _ _ _ fun x hx => (share_le hm (List.mem_range.1 hx)).2
  rw [sum_same, List.length_range] at h3
  have h4 := hm.few
  refine ⟨h0, ?_⟩
  suffices h : costF m (fun _ => true) ≤ 12960 by omega
  rw [costF_sumM]
  unfold sumM
  have h5 : ((spotL m.shafts.length).map fun x => if hitQ m.wvs.length (usesB m x.1 x.2) (fun _ => true) then (m.sh x.1).price else 0).sum ≤ ((spotL m.shafts.length).map fun _ => (60 : Int)).sum := sum_le _ _ _ fun x hx => by
    have hx' : x.1 < m.shafts.length := (mem_spotL (s := x.1) (h := x.2)).1 hx |>.1
    have := hm.price x.1 hx'
    split <;> omega
  rw [sum_same] at h5
  have h6 : (spotL m.shafts.length).length = m.shafts.length * 24 := by
    have : ∀ s, (spotL s).length = s * 24 := fun s => by
      induction s with
      | zero => rfl
      | succ s ih => rw [spotL_succ, List.length_append, ih, List.length_map, List.length_range]; omega
    exact this _
  have h7 := hm.sz
  rw [h6] at h5
  exact Int.le_trans h5 (by omega)
/-- the cost of a group of a number's bits, bounded -/
theorem costH_bd {m : PM} (hm : POk m) (s : Nat) : 0 ≤ costH m.wvs.length (spots m) s ∧ costH m.wvs.length (spots m) s ≤ 12960 := by
  rw [← bits_cost]; exact cost_bd hm _
/-- a rough bound for what is added to the sums behind a group that lacks r -/
def roughB : Nat → Int
  | 0 => 0
  | r + 1 => 6 * (roughB r + 720 * 12960)
theorem roughB_nonneg : ∀ r, 0 ≤ roughB r
  | 0 => Int.le_refl _
  | r + 1 => by have := roughB_nonneg r; unfold roughB; omega
theorem roughB_top {r : Nat} (h : r ≤ 6) : roughB r ≤ 600000000000 := by
  rcases (by omega : r = 0 ∨ r = 1 ∨ r = 2 ∨ r = 3 ∨ r = 4 ∨ r = 5 ∨ r = 6) with h | h | h | h | h | h | h <;> subst h <;> simp [roughB]
theorem fac_six {n : Nat} (h : n ≤ 6) : fac n ≤ 720 := by
  rcases (by omega : n = 0 ∨ n = 1 ∨ n = 2 ∨ n = 3 ∨ n = 4 ∨ n = 5 ∨ n = 6) with h | h | h | h | h | h | h <;> subst h <;> simp [fac]
/-- one member's part of the sums -/
def addT (n : Nat) (c : Nat → Int) (r s i k : Nat) : Int := addS n c i r (s + 2 ^ k) + if k = i then (addN n r (s + 2 ^ k) : Int) * (c (s + 2 ^ k) - c s) else 0
theorem addS_T (n : Nat) (c : Nat → Int) (r s i : Nat) : addS n c i (r + 1) s = ((lack n s).map (addT n c r s i)).sum := rfl
theorem mul_bd {a b : Int} (h1 : 0 ≤ a) (h2 : a ≤ 720) (h3 : -12960 ≤ b) (h4 : b ≤ 12960) : -(720 * 12960) ≤ a * b ∧ a * b ≤ 720 * 12960 := by
  constructor
  · have : a * (-12960) ≤ a * b := Int.mul_le_mul_of_nonneg_left h3 h1
    omega
  · have : a * b ≤ a * 12960 := Int.mul_le_mul_of_nonneg_left h4 h1
    omega
theorem sum_abs {α : Type} (f : α → Int) (B : Int) (hB : 0 ≤ B) : ∀ l : List α, (∀ x, x ∈ l → -B ≤ f x ∧ f x ≤ B) → -(B * (l.length : Int)) ≤ (l.map f).sum ∧ (l.map f).sum ≤ B * (l.length : Int)
  | [], _ => by simp
  | a :: l, h => by
    have ih := sum_abs f B hB l fun x hx => h x (by simp [hx])
    have := h a (by simp)
    simp only [List.map_cons, List.sum_cons, List.length_cons, Int.natCast_add, Int.mul_add]
    omega
theorem addS_bd {n : Nat} (hn : n ≤ 6) {c : Nat → Int} (hc : ∀ s, 0 ≤ c s ∧ c s ≤ 12960) (i : Nat) : ∀ r s, (lack n s).length = r → -(roughB r) ≤ addS n c i r s ∧ addS n c i r s ≤ roughB r
  | 0, s, _ => by simp [addS, roughB]
  | r + 1, s, h => by
    rw [addS_T]
    have hl : (lack n s).length ≤ 6 := by unfold lack; exact Nat.le_trans (List.length_filter_le _ _) (by simpa using hn)
    have hr := roughB_nonneg r
    have := sum_abs (addT n c r s i) (roughB r + 720 * 12960) (by omega) (lack n s) fun k hk => by
      have hk' := lack_len hk
      have ih := addS_bd hn hc i r (s + 2 ^ k) (by omega)
      have hf := addN_fac n r (s + 2 ^ k) (by omega)
      have h6 := fac_six (show r ≤ 6 by omega)
      have c1 := hc s; have c2 := hc (s + 2 ^ k)
      have hm := mul_bd (a := (addN n r (s + 2 ^ k) : Int)) (b := c (s + 2 ^ k) - c s) (by omega) (by omega) (by omega) (by omega)
      unfold addT
      split <;> omega
    have hle : (roughB r + 720 * 12960) * ((lack n s).length : Int) ≤ (roughB r + 720 * 12960) * 6 := Int.mul_le_mul_of_nonneg_left (by omega) (by omega)
    show -(6 * (roughB r + 720 * 12960)) ≤ _ ∧ _ ≤ 6 * (roughB r + 720 * 12960)
    omega
/-- the sums once those of the lacking below k are done -/
def partA (n : Nat) (c : Nat → Int) (r s i k : Nat) : Int := (((List.range k).filter fun j => !s.testBit j).map (addT n c r s i)).sum
def partN (n : Nat) (r s k : Nat) : Nat := (((List.range k).filter fun j => !s.testBit j).map fun j => addN n r (s + 2 ^ j)).sum
theorem partA_succ (n : Nat) (c : Nat → Int) (r s i k : Nat) : partA n c r s i (k + 1) = partA n c r s i k + if s.testBit k then 0 else addT n c r s i k := by
  unfold partA
  rw [List.range_succ, List.filter_append, List.map_append, List.sum_append]
  cases h : s.testBit k <;> simp [h]
theorem partN_succ (n r s k : Nat) : partN n r s (k + 1) = partN n r s k + if s.testBit k then 0 else addN n r (s + 2 ^ k) := by
  unfold partN
  rw [List.range_succ, List.filter_append, List.map_append, List.sum_append]
  cases h : s.testBit k <;> simp [h]
theorem partA_bd {n : Nat} (hn : n ≤ 6) {c : Nat → Int} (hc : ∀ s, 0 ≤ c s ∧ c s ≤ 12960) (i r s k : Nat) (hk : k ≤ n) (h : (lack n s).length = r + 1) : -(roughB (r + 1)) ≤ partA n c r s i k ∧ partA n c r s i k ≤ roughB (r + 1) := by
  have hl : ((List.range k).filter fun j => !s.testBit j).length ≤ 6 := Nat.le_trans (List.length_filter_le _ _) (by simp; omega)
  have hr := roughB_nonneg r
  have hl6 : (lack n s).length ≤ 6 := by unfold lack; exact Nat.le_trans (List.length_filter_le _ _) (by simpa using hn)
  have := sum_abs (addT n c r s i) (roughB r + 720 * 12960) (by omega) ((List.range k).filter fun j => !s.testBit j) fun j hj => by
    rw [List.mem_filter, List.mem_range] at hj
    have hj' : j ∈ lack n s := mem_lack.2 ⟨by omega, by simpa using hj.2⟩
    have hk' := lack_len hj'
    have ih := addS_bd hn hc i r (s + 2 ^ j) (by omega)
    have hf := addN_fac n r (s + 2 ^ j) (by omega)
    have h6 := fac_six (show r ≤ 6 by omega)
    have c1 := hc s; have c2 := hc (s + 2 ^ j)
    have hm := mul_bd (a := (addN n r (s + 2 ^ j) : Int)) (b := c (s + 2 ^ j) - c s) (by omega) (by omega) (by omega) (by omega)
    unfold addT
    split <;> omega
  have hle : (roughB r + 720 * 12960) * (((List.range k).filter fun j => !s.testBit j).length : Int) ≤ (roughB r + 720 * 12960) * 6 := Int.mul_le_mul_of_nonneg_left (by omega) (by omega)
  unfold partA
  show -(6 * (roughB r + 720 * 12960)) ≤ _ ∧ _ ≤ 6 * (roughB r + 720 * 12960)
  omega
theorem partN_bd {n : Nat} (hn : n ≤ 6) (r s k : Nat) (hk : k ≤ n) (h : (lack n s).length = r + 1) : partN n r s k ≤ 720 * k := by
  induction k with
  | zero => simp [partN]
  | succ k ih =>
    have ih := ih (by omega)
    rw [partN_succ]
    have hl6 : (lack n s).length ≤ 6 := by unfold lack; exact Nat.le_trans (List.length_filter_le _ _) (by simpa using hn)
    cases hb : s.testBit k with
    | true => simp; omega
    | false =>
      have hk' := lack_len (mem_lack.2 ⟨show k < n by omega, hb⟩)
      have hf := addN_fac n r (s + 2 ^ k) (by omega)
      have h6 := fac_six (show r ≤ 6 by omega)
      simp only [Bool.false_eq_true, if_false]
      omega
/-- a set lacks nobody just if it is the greatest one -/
theorem lack_full {n s : Nat} (hs : s < 2 ^ n) : (lack n s).length = 0 ↔ s = 2 ^ n - 1 := by
  rw [List.length_eq_zero_iff]
  constructor
  · intro h
    apply Nat.eq_of_testBit_eq
    intro k
    rw [Nat.testBit_two_pow_sub_one]
    by_cases hk : k < n
    · cases hb : s.testBit k with
      | true => simp [hk]
      | false => have : k ∈ lack n s := mem_lack.2 ⟨hk, hb⟩; rw [h] at this; cases this
    · rw [decide_eq_false hk]
      exact Nat.testBit_lt_two_pow (Nat.lt_of_lt_of_le hs (Nat.pow_le_pow_right (by omega) (by omega)))
  · rintro rfl
    refine List.eq_nil_iff_forall_not_mem.2 fun k hk => ?_
    obtain ⟨h1, h2⟩ := mem_lack.1 hk
    rw [Nat.testBit_two_pow_sub_one, decide_eq_true h1] at h2
    cases h2
theorem lack_lt {n s k : Nat} (hs : s < 2 ^ n) (hk : k < n) (hb : s.testBit k = false) : s + 2 ^ k < 2 ^ n := by
  have h : s + 2 ^ k = s ||| 2 ^ k := by
    apply Nat.eq_of_testBit_eq
    intro j
    rw [testBit_plus hb, Nat.testBit_or, Nat.testBit_two_pow]
    by_cases hj : j = k
    · subst hj; simp
    · simp [hj, Ne.symm hj]
  rw [h]
  exact Nat.or_lt_two_pow hs (Nat.pow_lt_pow_right (by omega) hk)
/-- the shares that all orders give -/
theorem share_orders {m : PM} (hm : POk m) {i : Nat} (hi : i < m.wvs.length) : 60 * addS m.wvs.length (costH m.wvs.length (spots m)) i m.wvs.length 0 = shareP m i * (fac m.wvs.length : Int) := share_law hm.few hi _
theorem orders_fac (n : Nat) : addN n n 0 = fac n := addN_fac n n 0 (by rw [lack_zero, List.length_range])
/-! The first group, by sets. -/
theorem more_nil (m : PM) (sh : List Int) : moreB m sh [] = false := by
  unfold moreB
  have : costF m (fun k => ([] : List Nat).contains k) = 0 := by
    rw [costF_sumM, ← sumM_none m]
    refine sumM_congr fun s h _ _ => ?_
    rw [hitQ_false]
    intro k _ _; rfl
  rw [this]; simp
theorem bits_zero (n : Nat) : bitsL n 0 = [] := by
  unfold bitsL
  rw [List.filter_eq_nil_iff]
  intro k _; simp [Nat.zero_testBit]
theorem pick_one (m : PM) (sh : List Int) (n : Nat) : pickF n (moreB m sh) 1 = none := by
  unfold pickF
  rw [bits_zero, more_nil]
  rfl
theorem bits_ne {n s : Nat} (h0 : s ≠ 0) (hs : s < 2 ^ n) : bitsL n s ≠ [] := by
  intro h
  apply h0
  apply Nat.eq_of_testBit_eq
  intro k
  rw [Nat.zero_testBit]
  by_cases hk : k < n
  · cases hb : s.testBit k with
    | false => rfl
    | true => have : k ∈ bitsL n s := mem_bitsL.2 ⟨hk, hb⟩; rw [h] at this; cases this
  · exact Nat.testBit_lt_two_pow (Nat.lt_of_lt_of_le hs (Nat.pow_le_pow_right (by omega) (by omega)))
/-! The proof with the most weavers, by sets. -/
def mostR (n : Nat) (p : List Nat → Bool) : Nat → List Nat
  | 0 => []
  | s + 1 => if p (bitsL n s) && (decide ((mostR n p s).length < (bitsL n s).length) || (decide ((bitsL n s).length = (mostR n p s).length) && before (bitsL n s) (mostR n p s))) then bitsL n s else mostR n p s
/-- what the reference asks of a proof -/
def proofR (m : PM) (s : Nat → Int) (l : List Nat) : Bool := (List.range l.length).all fun i => decide (s (l[i]?.getD 0) = 2) && (List.range i).all fun k => (m.line (m.wv (l[i]?.getD 0)).shaft).all fun x => clrB m s x.toNat || !(m.line (m.wv (l[k]?.getD 0)).shaft).contains x
/-! One hour more. -/
theorem cost_all (m : PM) : costF m (fun k => ((List.range m.wvs.length).map fun i : Nat => (i : Int)).contains (k : Int)) = costF m fun _ => true :=
  costQ_congr fun k hk => by
    rw [List.contains_iff_mem]
    exact List.mem_map.2 ⟨k, List.mem_range.2 hk, rfl⟩
end Go.Proofs.Pow
