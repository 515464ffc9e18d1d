/-
  How few changes, and how few orders late, by plans of whatever kind. No program is named here.
-/
import Derived.Test.YtknokjnplbdmeaaR2
namespace Go.Proofs.Pet
open Go

/-- the orders that are not put off have a plan -/
def Feas (m : Mill) (off : Nat) : Prop := ∃ R, PlanOf m (fun j => j < m.orders.length ∧ off.testBit j = false) R
theorem sdiff_full {n off j : Nat} : (sdiff (2 ^ n - 1) off).testBit j = true ↔ j < n ∧ off.testBit j = false := by
  rw [testBit_sdiff, Nat.testBit_two_pow_sub_one]; simp
theorem feas_iff {m : Mill} (hch : checkE m = 0) (off : Nat) : Feas m off ↔ sumF (numC m) m.laced.length (sdiff (2 ^ m.orders.length - 1) off) < 297 := by
  have hlt : sdiff (2 ^ m.orders.length - 1) off < 2 ^ m.orders.length := by have := sdiff_le (2 ^ m.orders.length - 1) off; have := Nat.two_pow_pos m.orders.length; omega
  constructor
  · rintro ⟨R, h⟩
    exact (PlanOf.le hch (fun j => sdiff_full.symm) h).2
  · intro h
    obtain ⟨R, h1, _⟩ := PlanOf.has hch hlt (fun j => sdiff_full.symm) h
    exact ⟨R, h1⟩
theorem full_zero {n : Nat} : sdiff (2 ^ n - 1) 0 = 2 ^ n - 1 := by
  apply Nat.eq_of_testBit_eq
  intro i
  rw [testBit_sdiff, Nat.zero_testBit]; simp
theorem planF_feas {m : Mill} (hch : checkE m = 0) : planF m = none ↔ ¬ Feas m 0 := by
  rw [feas_iff hch, full_zero]
  unfold planF
  split <;> simp <;> omega
/-- the fewest changes, if there is a plan -/
theorem few_feas {m : Mill} (hch : checkE m = 0) (h : Feas m 0) : ∃ R, PlanOf m (fun j => j < m.orders.length) R ∧ totC m R m.laced.length = fewR m (2 ^ m.orders.length - 1) := by
  have hlt : 2 ^ m.orders.length - 1 < 2 ^ m.orders.length := by have := Nat.two_pow_pos m.orders.length; omega
  rw [feas_iff hch, full_zero] at h
  rw [fewR_sum m hch _ hlt, if_pos h]
  exact PlanOf.has hch hlt (fun j => by rw [Nat.testBit_two_pow_sub_one, decide_eq_true_eq]) h
theorem few_le {m : Mill} (hch : checkE m = 0) {R : Nat → List Nat} (h : PlanOf m (fun j => j < m.orders.length) R) : fewR m (2 ^ m.orders.length - 1) ≤ totC m R m.laced.length := by
  have hlt : 2 ^ m.orders.length - 1 < 2 ^ m.orders.length := by have := Nat.two_pow_pos m.orders.length; omega
  obtain ⟨h1, h2⟩ := PlanOf.le hch (s := 2 ^ m.orders.length - 1) (fun j => by rw [Nat.testBit_two_pow_sub_one, decide_eq_true_eq]) h
  rw [fewR_sum m hch _ hlt, if_pos h2]
  exact h1
theorem feas_all (m : Mill) : Feas m (2 ^ m.orders.length - 1) := by
  refine ⟨fun _ => [], fun _ _ => List.nodup_nil, fun _ _ j hj => by simp at hj, fun _ _ => rfl, fun j => ?_, fun _ _ j _ _ hj => by simp at hj⟩
  rw [Nat.testBit_two_pow_sub_one]
  constructor
  · rintro ⟨h1, h2⟩
    simp at h2; omega
  · rintro ⟨i, _, hj⟩
    simp at hj
theorem late_some {m : Mill} (hch : checkE m = 0) : ∃ off, off < 2 ^ m.orders.length ∧ lateS m = some (intsOf (bits m.orders.length off)) ∧ Feas m off ∧ ∀ off', off' < 2 ^ m.orders.length → Feas m off' → beforeB (intsOf (bits m.orders.length off')) (intsOf (bits m.orders.length off)) = false := by
  have h := pickB_least ((List.range (2 ^ m.orders.length)).map fun off => (decide (sumF (numC m) m.laced.length (sdiff (2 ^ m.orders.length - 1) off) < 297), intsOf (bits m.orders.length off)))
  have hmem : ∀ off, off < 2 ^ m.orders.length → Feas m off → (true, intsOf (bits m.orders.length off)) ∈ ((List.range (2 ^ m.orders.length)).map fun off => (decide (sumF (numC m) m.laced.length (sdiff (2 ^ m.orders.length - 1) off) < 297), intsOf (bits m.orders.length off))) := fun off h1 h2 =>
    List.mem_map.2 ⟨off, List.mem_range.2 h1, by rw [decide_eq_true ((feas_iff hch off).1 h2)]⟩
  cases hp : pickB ((List.range (2 ^ m.orders.length)).map fun off => (decide (sumF (numC m) m.laced.length (sdiff (2 ^ m.orders.length - 1) off) < 297), intsOf (bits m.orders.length off))) with
  | none =>
    rw [hp] at h
    have := h _ (hmem _ (by have := Nat.two_pow_pos m.orders.length; omega) (feas_all m))
    cases this
  | some b =>
    rw [hp] at h
    obtain ⟨h1, h2⟩ := h
    obtain ⟨off, ho, e⟩ := List.mem_map.1 h1
    simp only [Prod.mk.injEq, decide_eq_true_eq] at e
    obtain ⟨e1, rfl⟩ := e
    exact ⟨off, List.mem_range.1 ho, hp, (feas_iff hch off).2 e1, fun off' g1 g2 => h2 _ (hmem off' g1 g2) rfl⟩
theorem before_len {a b : List Int} (h : beforeB a b = false) : b.length ≤ a.length := by
  unfold beforeB at h
  split at h
  · omega
  · simp at h; omega
/-- the orders that are late -/
def lateL (m : Mill) : List Int := (lateS m).getD []
theorem late_len {m : Mill} (hch : checkE m = 0) {off : Nat} (h1 : off < 2 ^ m.orders.length) (h2 : Feas m off) : (lateL m).length ≤ (bits m.orders.length off).length := by
  obtain ⟨o, g1, g2, g3, g4⟩ := late_some hch
  have := before_len (g4 off h1 h2)
  unfold lateL
  rw [g2]
  unfold intsOf at this ⊢
  simpa using this
theorem late_feas {m : Mill} (hch : checkE m = 0) : ∃ off, off < 2 ^ m.orders.length ∧ Feas m off ∧ lateL m = intsOf (bits m.orders.length off) := by
  obtain ⟨o, g1, g2, g3, g4⟩ := late_some hch
  exact ⟨o, g1, g3, by unfold lateL; rw [g2]; rfl⟩
theorem late_nil {m : Mill} (hch : checkE m = 0) : (lateL m).length = 0 ↔ Feas m 0 := by
  constructor
  · intro h
    obtain ⟨o, g1, g2, g3⟩ := late_feas hch
    rw [g3] at h
    have := bits_none g1 (by unfold intsOf at h; simpa using h)
    subst this
    exact g2
  · intro h
    have := late_len hch (Nat.two_pow_pos _) h
    have e : (bits m.orders.length 0).length = 0 := by simp [bits]
    omega
/-- off's orders by other names -/
theorem Feas.map {m u : Mill} {g f : Nat → Nat} (M : Morph m u g f) (hs : ∀ k, k < u.orders.length → ∃ j, j < m.orders.length ∧ f j = k) {off off' : Nat} (ho : ∀ j, j < m.orders.length → off'.testBit (f j) = off.testBit j) (h : Feas m off) : Feas u off' := by
  obtain ⟨R, hR⟩ := h
  have h1 := (hR.map M).1
  refine ⟨_, h1.nodup, h1.mem, h1.tm, fun k => ?_, h1.once⟩
  rw [← h1.all k]
  constructor
  · rintro ⟨hk, hb⟩
    obtain ⟨j, hj, rfl⟩ := hs k hk
    exact ⟨j, ⟨hj, by rw [← ho j hj]; exact hb⟩, rfl⟩
  · rintro ⟨j, ⟨hj, hb⟩, rfl⟩
    exact ⟨M.lt j hj, by rw [ho j hj]; exact hb⟩
/-- a mill to which each plan of another one serves, order by order, needs no more -/
theorem morph_few {m u : Mill} (hm : checkE m = 0) (hu : checkE u = 0) {g f : Nat → Nat} (M : Morph m u g f) (hs : ∀ k, k < u.orders.length → ∃ j, j < m.orders.length ∧ f j = k) (h : Feas m 0) : Feas u 0 ∧ fewR u (2 ^ u.orders.length - 1) ≤ fewR m (2 ^ m.orders.length - 1) := by
  refine ⟨h.map M hs fun j _ => by simp, ?_⟩
  obtain ⟨R, hR, ht⟩ := few_feas hm h
  obtain ⟨h1, h2⟩ := hR.map M
  rw [← ht, ← h2]
  refine few_le hu ⟨h1.nodup, h1.mem, h1.tm, fun k => ?_, h1.once⟩
  rw [← h1.all k]
  constructor
  · intro hk
    obtain ⟨j, hj, rfl⟩ := hs k hk
    exact ⟨j, hj, rfl⟩
  · rintro ⟨j, hj, rfl⟩
    exact M.lt j hj
theorem morph_late {m u : Mill} (hm : checkE m = 0) (hu : checkE u = 0) {g f : Nat → Nat} (M : Morph m u g f) (hs : ∀ k, k < u.orders.length → ∃ j, j < m.orders.length ∧ f j = k) : (lateL u).length ≤ (lateL m).length := by
  obtain ⟨off, h1, h2, h3⟩ := late_feas hm
  have hb : ∀ j, j ∈ bits m.orders.length off → j < m.orders.length := fun j hj => (mem_bits.1 hj).1
  have hbn : (bits m.orders.length off).Nodup := List.nodup_range.filter _
  have hn := nodup_map_in M.inj hb hbn
  have hl : ∀ k, k ∈ (bits m.orders.length off).map f → k < u.orders.length := fun k hk => by
    obtain ⟨j, hj, rfl⟩ := List.mem_map.1 hk
    exact M.lt j (hb j hj)
  have hf : Feas u (setN ((bits m.orders.length off).map f)) := h2.map M hs fun j hj => by
    rw [Bool.eq_iff_iff, setN_mem, List.mem_map]
    constructor
    · rintro ⟨i, hi, e⟩
      have := M.inj i j (hb i hi) hj e
      subst this
      exact (mem_bits.1 hi).2
    · intro h
      exact ⟨j, mem_bits.2 ⟨hj, h⟩, rfl⟩
  have h4 := late_len hu (setN_lt hl) hf
  rw [(setN_bits hn hl).length_eq, List.length_map] at h4
  rw [h3]
  unfold intsOf
  simpa using h4
end Go.Proofs.Pet
