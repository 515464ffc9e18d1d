/- Joined texts: S1, S2, K1, S3, F1, S4, S5, S6, S7, S8, S9, S10, S11, S12, S13, S14, S15. -/
import Derived.IntWalk
import Derived.KernelRfl
namespace Go.Proofs.Pow

def fac : Nat → Nat
  | 0 => 1
  | n + 1 => (n + 1) * fac n
theorem fac_pos : ∀ n, 0 < fac n
  | 0 => Nat.zero_lt_one
  | n + 1 => by unfold fac; exact Nat.mul_pos (by omega) (fac_pos n)
/-- numbers below n that a set lacks -/
def lack (n s : Nat) : List Nat := (List.range n).filter fun k => !s.testBit k
theorem mem_lack {n s k : Nat} : k ∈ lack n s ↔ k < n ∧ s.testBit k = false := by
  unfold lack
  rw [List.mem_filter, List.mem_range]; simp
theorem lack_nodup (n s : Nat) : (lack n s).Nodup := List.Pairwise.filter _ List.nodup_range
theorem testBit_plus {s k : Nat} (h : s.testBit k = false) (j : Nat) : (s + 2 ^ k).testBit j = (s.testBit j || decide (j = k)) := by
  have hr : s % 2 ^ k < 2 ^ k := Nat.mod_lt _ (Nat.two_pow_pos k)
  have hq : (s / 2 ^ k) % 2 = 0 := by
    rw [Nat.testBit_eq_decide_div_mod_eq] at h
    have := of_decide_eq_false h
    omega
  have e1 : s = 2 ^ k * (s / 2 ^ k) + s % 2 ^ k := (Nat.div_add_mod s (2 ^ k)).symm
  have e2 : s + 2 ^ k = 2 ^ k * (s / 2 ^ k + 1) + s % 2 ^ k := by rw [Nat.mul_add]; omega
  rw [e2, Nat.testBit_two_pow_mul_add _ hr]
  conv => rhs; rw [e1, Nat.testBit_two_pow_mul_add _ hr]
  generalize s / 2 ^ k = q at hq
  obtain ⟨t, rfl⟩ : ∃ t, q = 2 * t := ⟨q / 2, by omega⟩
  by_cases hj : j < k
  · rw [if_pos hj, if_pos hj]
    have : decide (j = k) = false := decide_eq_false (by omega)
    rw [this, Bool.or_false]
  · rw [if_neg hj, if_neg hj]
    by_cases e : j = k
    · subst e
      rw [Nat.sub_self]
      simp [Nat.testBit_zero]
    · obtain ⟨d, hd⟩ : ∃ d, j - k = d + 1 := ⟨j - k - 1, by omega⟩
      rw [hd, Nat.testBit_succ, Nat.testBit_succ]
      have e3 : (2 * t + 1) / 2 = t := by omega
      have e4 : 2 * t / 2 = t := by omega
      rw [e3, e4, decide_eq_false e, Bool.or_false]
theorem lack_plus {n s k : Nat} (h : s.testBit k = false) : lack n (s + 2 ^ k) = (lack n s).filter fun j => decide (j ≠ k) := by
  unfold lack
  rw [List.filter_filter]
  refine List.filter_congr fun j _ => ?_
  rw [testBit_plus h]
  cases s.testBit j <;> by_cases e : j = k <;> simp [e]
theorem len_without {l : List Nat} (hn : l.Nodup) {k : Nat} (hk : k ∈ l) : (l.filter fun j => decide (j ≠ k)).length + 1 = l.length := by
  induction l with
  | nil => cases hk
  | cons a l ih =>
    rw [List.nodup_cons] at hn
    by_cases e : a = k
    · subst e
      rw [List.filter_cons_of_neg (by simp), List.filter_eq_self.2, List.length_cons]
      intro x hx
      have : x ≠ a := fun e => hn.1 (e ▸ hx)
      simpa using this
    · rw [List.filter_cons_of_pos (by simpa using e), List.length_cons, List.length_cons, ih hn.2 (by rcases List.mem_cons.1 hk with h | h; exact absurd h.symm e; exact h)]
theorem lack_len {n s k : Nat} (hk : k ∈ lack n s) : (lack n (s + 2 ^ k)).length + 1 = (lack n s).length := by
  rw [lack_plus (mem_lack.1 hk).2]
  exact len_without (lack_nodup n s) hk
/-- how many orders go on behind a set -/
def addN (n : Nat) : Nat → Nat → Nat
  | 0, _ => 1
  | r + 1, s => ((lack n s).map fun k => addN n r (s + 2 ^ k)).sum
/-- what player i adds in all orders that go on behind a set -/
def addS (n : Nat) (c : Nat → Int) (i : Nat) : Nat → Nat → Int
  | 0, _ => 0
  | r + 1, s => ((lack n s).map fun k => addS n c i r (s + 2 ^ k) + if k = i then (addN n r (s + 2 ^ k) : Int) * (c (s + 2 ^ k) - c s) else 0).sum
theorem sum_const {α : Type} (f : α → Nat) (c : Nat) : ∀ l : List α, (∀ x, x ∈ l → f x = c) → (l.map f).sum = l.length * c
  | [], _ => by simp
  | a :: l, h => by
    rw [List.map_cons, List.sum_cons, h a (by simp), sum_const f c l fun x hx => h x (by simp [hx]), List.length_cons, Nat.add_mul, Nat.one_mul]; omega
theorem addN_fac (n : Nat) : ∀ r s, (lack n s).length = r → addN n r s = fac r
  | 0, _, _ => rfl
  | r + 1, s, h => by
    unfold addN fac
    rw [sum_const _ (fac r) _ fun k hk => addN_fac n r _ (by have := lack_len hk; omega), h]
/-- 1 if one of some players has come -/
def hit (n : Nat) (U : Nat → Bool) (s : Nat) : Int := if (List.range n).any fun k => U k && s.testBit k then 1 else 0
def cntU (n : Nat) (U : Nat → Bool) : Nat := ((List.range n).filter U).length
theorem hit_iff {n : Nat} {U : Nat → Bool} {s : Nat} : hit n U s = 1 ↔ ∃ k, k < n ∧ U k = true ∧ s.testBit k = true := by
  unfold hit
  split
  · rename_i h
    rw [List.any_eq_true] at h
    obtain ⟨k, hk, h⟩ := h
    rw [Bool.and_eq_true] at h
    exact ⟨fun _ => ⟨k, List.mem_range.1 hk, h⟩, fun _ => rfl⟩
  · rename_i h
    refine ⟨fun h => absurd h (by omega), fun ⟨k, h1, h2, h3⟩ => absurd ?_ h⟩
    rw [List.any_eq_true]
    exact ⟨k, List.mem_range.2 h1, by rw [h2, h3]; rfl⟩
theorem hit_zero {n : Nat} {U : Nat → Bool} {s : Nat} : hit n U s = 0 ↔ ∀ k, k < n → U k = true → s.testBit k = false := by
  have h1 := hit_iff (n := n) (U := U) (s := s)
  have h2 : hit n U s = 0 ∨ hit n U s = 1 := by unfold hit; split <;> simp
  constructor
  · intro h k hk hu
    cases hb : s.testBit k with
    | false => rfl
    | true => have := h1.2 ⟨k, hk, hu, hb⟩; omega
  · intro h
    rcases h2 with h2 | h2
    · exact h2
    · obtain ⟨k, a, b, c⟩ := h1.1 h2
      rw [h k a b] at c; cases c
theorem hit_up {n : Nat} {U : Nat → Bool} {s k : Nat} (hk : s.testBit k = false) (h : hit n U s = 1) : hit n U (s + 2 ^ k) = 1 := by
  obtain ⟨j, a, b, c⟩ := hit_iff.1 h
  exact hit_iff.2 ⟨j, a, b, by rw [testBit_plus hk, c]; rfl⟩
theorem hit_out {n : Nat} {U : Nat → Bool} {s k : Nat} (hk : s.testBit k = false) (hu : U k = false) : hit n U (s + 2 ^ k) = hit n U s := by
  unfold hit
  congr 2
  have : (fun j => U j && (s + 2 ^ k).testBit j) = fun j => U j && s.testBit j := by
    funext j
    rw [testBit_plus hk]
    by_cases e : j = k
    · subst e; simp [hu]
    · simp [e]
  rw [this]
theorem hit_in {n : Nat} {U : Nat → Bool} {s k : Nat} (hk : s.testBit k = false) (hn : k < n) (hu : U k = true) : hit n U (s + 2 ^ k) = 1 :=
  hit_iff.2 ⟨k, hn, hu, by rw [testBit_plus hk]; simp⟩
theorem sum_zero' {α : Type} (f : α → Int) : ∀ l : List α, (∀ x, x ∈ l → f x = 0) → (l.map f).sum = 0
  | [], _ => rfl
  | a :: l, h => by rw [List.map_cons, List.sum_cons, h a (by simp), sum_zero' f l fun x hx => h x (by simp [hx])]; rfl
theorem addS_hit {n : Nat} {U : Nat → Bool} (i : Nat) : ∀ r s, hit n U s = 1 → addS n (hit n U) i r s = 0
  | 0, _, _ => rfl
  | r + 1, s, h => by
    unfold addS
    refine sum_zero' _ _ fun k hk => ?_
    have hk := (mem_lack.1 hk).2
    have h1 := hit_up hk h
    rw [addS_hit i r _ h1, h1, h]
    split <;> omega
theorem addS_out {n : Nat} {U : Nat → Bool} {i : Nat} (hi : U i = false) : ∀ r s, addS n (hit n U) i r s = 0
  | 0, _ => rfl
  | r + 1, s => by
    unfold addS
    refine sum_zero' _ _ fun k hk => ?_
    have hk := (mem_lack.1 hk).2
    rw [addS_out hi r]
    split
    · rename_i e
      subst e
      rw [hit_out hk hi]; simp
    · rfl
theorem sum_three (U : Nat → Bool) (i : Nat) (hi : U i = true) (u : Int) (F : Int) : ∀ l : List Nat, l.Nodup → (l.map fun k => if U k then (if k = i then u * F else 0) else F).sum = (if i ∈ l then u * F else 0) + ((l.filter fun k => !U k).length : Int) * F
  | [], _ => by simp
  | a :: l, h => by
    rw [List.nodup_cons] at h
    rw [List.map_cons, List.sum_cons, sum_three U i hi u F l h.2]
    cases hu : U a with
    | false =>
      have e : i ≠ a := fun e => by rw [e, hu] at hi; cases hi
      rw [List.filter_cons_of_pos (by simp [hu]), List.length_cons]
      have : (i ∈ a :: l) ↔ i ∈ l := by rw [List.mem_cons]; exact ⟨fun h => h.resolve_left e, .inr⟩
      simp only [this, Bool.false_eq_true, if_false]
      rw [Int.natCast_add, Int.add_mul]; omega
    | true =>
      rw [List.filter_cons_of_neg (by simp [hu])]
      by_cases e : a = i
      · subst e
        simp [h.1]
      · have : (i ∈ a :: l) ↔ i ∈ l := by rw [List.mem_cons]; exact ⟨fun h => h.resolve_left (Ne.symm e), .inr⟩
        simp [this, e]
theorem mul_sum {α : Type} (u : Int) (f : α → Int) : ∀ l : List α, u * (l.map f).sum = (l.map fun x => u * f x).sum
  | [] => by simp
  | a :: l => by rw [List.map_cons, List.sum_cons, Int.mul_add, mul_sum u f l, List.map_cons, List.sum_cons]
theorem filter_split {α : Type} (p : α → Bool) : ∀ l : List α, (l.filter p).length + (l.filter fun x => !p x).length = l.length
  | [] => rfl
  | a :: l => by
    have := filter_split p l
    cases h : p a <;> simp [h] <;> omega
/-- of those who count each is as often the first one to come -/
theorem addS_in {n : Nat} {U : Nat → Bool} {i : Nat} (hi : i < n) (hU : U i = true) : ∀ r s, (lack n s).length = r → hit n U s = 0 → (cntU n U : Int) * addS n (hit n U) i r s = fac r
  | 0, s, h, h0 => by
    have : i ∈ lack n s := mem_lack.2 ⟨hi, hit_zero.1 h0 i hi hU⟩
    rw [List.length_eq_zero_iff] at h
    rw [h] at this; cases this
  | r + 1, s, h, h0 => by
    have hz := hit_zero.1 h0
    unfold addS
    rw [mul_sum]
    have e : (lack n s).map (fun x => (cntU n U : Int) * (addS n (hit n U) i r (s + 2 ^ x) + if x = i then (addN n r (s + 2 ^ x) : Int) * (hit n U (s + 2 ^ x) - hit n U s) else 0)) =
        (lack n s).map fun k => if U k then (if k = i then (cntU n U : Int) * fac r else 0) else (fac r : Int) := by
      refine List.map_congr_left fun k hk => ?_
      have hk' := mem_lack.1 hk
      have hl := lack_len hk
      cases hu : U k with
      | true =>
        rw [addS_hit i r _ (hit_in hk'.2 hk'.1 hu), hit_in hk'.2 hk'.1 hu, h0, addN_fac n r _ (by omega)]
        by_cases e : k = i <;> simp [e]
      | false =>
        have e : k ≠ i := fun e => by rw [e, hU] at hu; cases hu
        have ih := addS_in hi hU r (s + 2 ^ k) (by omega) (by rw [hit_out hk'.2 hu]; exact h0)
        simp only [e, if_false, Int.add_zero, Bool.false_eq_true]
        exact ih
    rw [e, sum_three U i hU _ _ _ (lack_nodup n s), if_pos (mem_lack.2 ⟨hi, hz i hi hU⟩)]
    have h1 := filter_split U (lack n s)
    have h2 : (lack n s).filter U = (List.range n).filter U := by
      unfold lack
      rw [List.filter_filter]
      refine List.filter_congr fun k hk => ?_
      cases hu : U k with
      | false => simp
      | true => rw [hz k (List.mem_range.1 hk) hu]; simp
    rw [h2, h] at h1
    have h3 : (cntU n U : Int) + ((lack n s).filter fun k => !U k).length = (r + 1 : Nat) := by unfold cntU; omega
    rw [← Int.add_mul, h3]
    show _ = (((r + 1) * fac r : Nat) : Int)
    rw [Int.natCast_mul]
/-! Sums of what counts. -/
def costH (n : Nat) (L : List (Int × (Nat → Bool))) (s : Nat) : Int := (L.map fun p => p.1 * hit n p.2 s).sum
theorem sum_add {α : Type} (f g : α → Int) : ∀ l : List α, (l.map fun x => f x + g x).sum = (l.map f).sum + (l.map g).sum
  | [] => rfl
  | a :: l => by simp only [List.map_cons, List.sum_cons, sum_add f g l]; omega
theorem addS_add (n : Nat) (c d : Nat → Int) (i : Nat) : ∀ r s, addS n (fun s => c s + d s) i r s = addS n c i r s + addS n d i r s
  | 0, _ => rfl
  | r + 1, s => by
    unfold addS
    rw [← sum_add]
    refine congrArg _ (List.map_congr_left fun k _ => ?_)
    rw [addS_add n c d i r]
    split
    · rw [show c (s + 2 ^ k) + d (s + 2 ^ k) - (c s + d s) = (c (s + 2 ^ k) - c s) + (d (s + 2 ^ k) - d s) by omega, Int.mul_add]; omega
    · omega
theorem addS_mul (n : Nat) (c : Nat → Int) (w : Int) (i : Nat) : ∀ r s, addS n (fun s => w * c s) i r s = w * addS n c i r s
  | 0, _ => by simp [addS]
  | r + 1, s => by
    unfold addS
    rw [mul_sum]
    refine congrArg _ (List.map_congr_left fun k _ => ?_)
    rw [addS_mul n c w i r]
    split
    · rw [Int.mul_add, ← Int.mul_sub]; congr 1; rw [← Int.mul_assoc, ← Int.mul_assoc, Int.mul_comm w]
    · simp
theorem addS_zero (n : Nat) (i : Nat) : ∀ r s, addS n (fun _ => 0) i r s = 0
  | 0, _ => rfl
  | r + 1, s => by
    unfold addS
    refine sum_zero' _ _ fun k _ => ?_
    rw [addS_zero n i r]; simp
theorem addS_sum (n : Nat) (i r s : Nat) : ∀ L : List (Int × (Nat → Bool)), addS n (costH n L) i r s = (L.map fun p => p.1 * addS n (hit n p.2) i r s).sum
  | [] => by
    have : costH n [] = fun _ => 0 := by funext s; rfl
    rw [this, addS_zero]; rfl
  | p :: L => by
    have : costH n (p :: L) = fun s => p.1 * hit n p.2 s + costH n L s := by funext s; rfl
    rw [this, addS_add, addS_mul, addS_sum n i r s L]; rfl
/-- equal parts of what is counted -/
def shareH (n : Nat) (L : List (Int × (Nat → Bool))) (i : Nat) : Int := (L.map fun p => if p.2 i then 60 * p.1 / (cntU n p.2 : Int) else 0).sum
theorem cntU_le (n : Nat) (U : Nat → Bool) : cntU n U ≤ n := by
  unfold cntU
  have := List.length_filter_le U (List.range n)
  rwa [List.length_range] at this
theorem cntU_pos {n i : Nat} {U : Nat → Bool} (hi : i < n) (hU : U i = true) : 0 < cntU n U :=
  List.length_pos_of_mem (List.mem_filter.2 ⟨List.mem_range.2 hi, hU⟩)
theorem sixty {u : Int} (h0 : 0 < u) (h6 : u ≤ 6) (w : Int) : 60 * w / u * u = 60 * w := by
  obtain rfl | rfl | rfl | rfl | rfl | rfl : u = 1 ∨ u = 2 ∨ u = 3 ∨ u = 4 ∨ u = 5 ∨ u = 6 := by omega
  all_goals omega
/-- 60 times what one adds on the average is the share -/
theorem share_law {n : Nat} (hn : n ≤ 6) {i : Nat} (hi : i < n) : ∀ L : List (Int × (Nat → Bool)), 60 * addS n (costH n L) i n 0 = shareH n L i * fac n := by
  intro L
  rw [addS_sum]
  have h0 : ∀ U : Nat → Bool, hit n U 0 = 0 := fun U => hit_zero.2 fun k _ _ => Nat.zero_testBit k
  have hl : (lack n 0).length = n := by
    unfold lack
    rw [List.filter_eq_self.2, List.length_range]
    intro k _; simp
  induction L with
  | nil => simp [shareH]
  | cons p L ih =>
    unfold shareH at ih ⊢
    rw [List.map_cons, List.sum_cons, List.map_cons, List.sum_cons, Int.mul_add, Int.add_mul, ih]
    congr 1
    cases hU : p.2 i with
    | false => rw [addS_out hU]; simp
    | true =>
      have h1 := addS_in hi hU n 0 hl (h0 p.2)
      have h2 := cntU_pos hi hU; have h3 := cntU_le n p.2
      have h4 := sixty (u := (cntU n p.2 : Int)) (by omega) (by omega) p.1
      rw [if_pos rfl, ← h1]
      rw [← Int.mul_assoc, ← Int.mul_assoc (60 * p.1 / _), h4]
end Go.Proofs.Pow

namespace Go.Proofs.Pow

theorem sum_swap {α β : Type} (f : α → β → Int) : ∀ (l : List α) (r : List β), (l.map fun a => (r.map fun b => f a b).sum).sum = (r.map fun b => (l.map fun a => f a b).sum).sum
  | [], r => by
    simp only [List.map_nil, List.sum_nil]
    rw [sum_zero' _ r fun _ _ => rfl]
  | a :: l, r => by
    rw [List.map_cons, List.sum_cons, sum_swap f l r, ← sum_add]
    congr 1
theorem sum_le {α : Type} (f g : α → Int) : ∀ l : List α, (∀ x, x ∈ l → f x ≤ g x) → (l.map f).sum ≤ (l.map g).sum
  | [], _ => Int.le_refl _
  | a :: l, h => by
    have h1 := h a (by simp)
    have h2 := sum_le f g l fun x hx => h x (by simp [hx])
    simp only [List.map_cons, List.sum_cons]
    omega
theorem sum_eq {α : Type} (f g : α → Int) (l : List α) (h : ∀ x, x ∈ l → f x = g x) : (l.map f).sum = (l.map g).sum := by
  rw [List.map_congr_left h]
theorem sum_nonneg {α : Type} (f : α → Int) (l : List α) (h : ∀ x, x ∈ l → 0 ≤ f x) : 0 ≤ (l.map f).sum := by
  have := sum_le (fun _ => 0) f l h
  rw [sum_zero' _ l fun _ _ => rfl] at this
  exact this
theorem sum_ite {α : Type} (q : α → Bool) (c : Int) : ∀ l : List α, (l.map fun k => if q k then c else 0).sum = c * ((l.filter q).length : Int)
  | [] => by simp
  | a :: l => by
    rw [List.map_cons, List.sum_cons, sum_ite q c l]
    cases h : q a with
    | true => rw [List.filter_cons_of_pos h, List.length_cons, if_pos rfl, Int.natCast_add, Int.mul_add]; simp [Int.add_comm]
    | false => rw [List.filter_cons_of_neg (by simp [h]), if_neg (by simp)]; simp
/-- does someone of p use it -/
def hitQ (n : Nat) (U p : Nat → Bool) : Bool := (List.range n).any fun k => U k && p k
theorem hitQ_iff {n : Nat} {U p : Nat → Bool} : hitQ n U p = true ↔ ∃ k, k < n ∧ U k = true ∧ p k = true := by
  unfold hitQ
  rw [List.any_eq_true]
  simp only [List.mem_range, Bool.and_eq_true]
theorem hitQ_false {n : Nat} {U p : Nat → Bool} : hitQ n U p = false ↔ ∀ k, k < n → U k = true → p k = false := by
  rw [← Bool.not_eq_true, hitQ_iff]
  constructor
  · intro h k hk hu
    cases hp : p k with
    | false => rfl
    | true => exact absurd ⟨k, hk, hu, hp⟩ h
  · rintro h ⟨k, hk, hu, hp⟩
    rw [h k hk hu] at hp; cases hp
/-- what the group p costs -/
def costQ (n : Nat) (L : List (Int × (Nat → Bool))) (p : Nat → Bool) : Int := (L.map fun x => if hitQ n x.2 p then x.1 else 0).sum
theorem hit_hitQ (n : Nat) (U : Nat → Bool) (s : Nat) : hit n U s = if hitQ n U s.testBit then 1 else 0 := by
  unfold hit hitQ
  rfl
theorem costH_costQ (n : Nat) (L : List (Int × (Nat → Bool))) (s : Nat) : costH n L s = costQ n L s.testBit := by
  unfold costH costQ
  refine sum_eq _ _ L fun x _ => ?_
  rw [hit_hitQ]
  split <;> simp
theorem costQ_congr {n : Nat} {L : List (Int × (Nat → Bool))} {p q : Nat → Bool} (h : ∀ k, k < n → p k = q k) : costQ n L p = costQ n L q := by
  unfold costQ
  refine sum_eq _ _ L fun x _ => ?_
  have : hitQ n x.2 p = hitQ n x.2 q := by
    rw [Bool.eq_iff_iff, hitQ_iff, hitQ_iff]
    constructor
    · rintro ⟨k, hk, h1, h2⟩; exact ⟨k, hk, h1, by rw [← h k hk]; exact h2⟩
    · rintro ⟨k, hk, h1, h2⟩; exact ⟨k, hk, h1, by rw [h k hk]; exact h2⟩
  rw [this]
theorem costQ_mono {n : Nat} {L : List (Int × (Nat → Bool))} (hL : ∀ x, x ∈ L → 0 ≤ x.1) {p q : Nat → Bool} (h : ∀ k, k < n → p k = true → q k = true) : costQ n L p ≤ costQ n L q := by
  unfold costQ
  refine sum_le _ _ L fun x hx => ?_
  have h0 := hL x hx
  cases h1 : hitQ n x.2 p with
  | false => simp only [if_neg (show ¬ (false = true) by simp)]; split <;> omega
  | true =>
    obtain ⟨k, hk, g1, g2⟩ := hitQ_iff.1 h1
    rw [if_pos rfl, if_pos (hitQ_iff.2 ⟨k, hk, g1, h k hk g2⟩)]
    exact Int.le_refl _
theorem costQ_nonneg {n : Nat} {L : List (Int × (Nat → Bool))} (hL : ∀ x, x ∈ L → 0 ≤ x.1) (p : Nat → Bool) : 0 ≤ costQ n L p := by
  unfold costQ
  refine sum_nonneg _ L fun x hx => ?_
  have := hL x hx
  split <;> omega
/-- the shares of one spot: those of a group come to no more than the group pays for it -/
theorem spot_le {n : Nat} (hn : n ≤ 6) (U p : Nat → Bool) {w : Int} (hw : 0 ≤ w) :
    (((List.range n).filter p).map fun k => if U k then 60 * w / (cntU n U : Int) else 0).sum ≤ 60 * (if hitQ n U p then w else 0) := by
  rw [sum_ite]
  cases h : hitQ n U p with
  | false =>
    have : ((List.range n).filter p).filter U = [] := by
      rw [List.filter_eq_nil_iff]
      intro k hk hu
      rw [List.mem_filter, List.mem_range] at hk
      rw [hitQ_false.1 h k hk.1 hu] at hk
      simp at hk
    rw [this]
    simp
  | true =>
    rw [if_pos rfl]
    obtain ⟨k, hk, h1, h2⟩ := hitQ_iff.1 h
    have hu := cntU_pos hk h1
    have hu6 := cntU_le n U
    have hs := sixty (u := (cntU n U : Int)) (by omega) (by omega) w
    have hle : (((List.range n).filter p).filter U).length ≤ cntU n U := by
      unfold cntU
      rw [List.filter_filter]
      have : (List.range n).filter (fun a => U a && p a) = ((List.range n).filter U).filter p := by
        rw [List.filter_filter]
        congr 1
        funext a
        exact Bool.and_comm _ _
      rw [this]
      exact List.length_filter_le _ _
    have h0 : 0 ≤ 60 * w / (cntU n U : Int) := Int.ediv_nonneg (by omega) (by omega)
    exact Int.le_trans (Int.mul_le_mul_of_nonneg_left (show ((((List.range n).filter p).filter U).length : Int) ≤ (cntU n U : Int) by omega) h0) (Int.le_of_eq hs)
theorem spot_all {n : Nat} (hn : n ≤ 6) (U : Nat → Bool) (w : Int) :
    ((List.range n).map fun k => if U k then 60 * w / (cntU n U : Int) else 0).sum = 60 * (if hitQ n U (fun _ => true) then w else 0) := by
  rw [sum_ite]
  show _ * (cntU n U : Int) = _
  cases h : hitQ n U (fun _ => true) with
  | false =>
    have : cntU n U = 0 := by
      unfold cntU
      rw [List.length_eq_zero_iff, List.filter_eq_nil_iff]
      intro k hk hu
      have := hitQ_false.1 h k (List.mem_range.1 hk) hu
      cases this
    rw [this]; simp
  | true =>
    obtain ⟨k, hk, h1, _⟩ := hitQ_iff.1 h
    have hu := cntU_pos hk h1
    have hu6 := cntU_le n U
    rw [if_pos rfl]
    exact sixty (by omega) (by omega) w
/-- no group has more parts than sixty times its cost -/
theorem share_group {n : Nat} (hn : n ≤ 6) {L : List (Int × (Nat → Bool))} (hL : ∀ x, x ∈ L → 0 ≤ x.1) (p : Nat → Bool) : (((List.range n).filter p).map (shareH n L)).sum ≤ 60 * costQ n L p := by
  unfold shareH costQ
  rw [sum_swap, mul_sum]
  exact sum_le _ _ L fun x hx => spot_le hn x.2 p (hL x hx)
/-- and all together have just as many -/
theorem share_total {n : Nat} (hn : n ≤ 6) (L : List (Int × (Nat → Bool))) : ((List.range n).map (shareH n L)).sum = 60 * costQ n L (fun _ => true) := by
  unfold shareH costQ
  rw [sum_swap, mul_sum]
  exact sum_eq _ _ L fun x _ => spot_all hn x.2 x.1
theorem share_nonneg {n : Nat} {L : List (Int × (Nat → Bool))} (hL : ∀ x, x ∈ L → 0 ≤ x.1) (i : Nat) : 0 ≤ shareH n L i := by
  unfold shareH
  refine sum_nonneg _ L fun x hx => ?_
  have := hL x hx
  split
  · exact Int.ediv_nonneg (by omega) (by omega)
  · exact Int.le_refl _
theorem filter_one {n i : Nat} (hi : i < n) : (List.range n).filter (fun k => decide (k = i)) = [i] := by
  induction n with
  | zero => omega
  | succ n ih =>
    rw [List.range_succ, List.filter_append]
    by_cases e : i = n
    · subst e
      rw [List.filter_eq_nil_iff.2 fun k hk => by have := List.mem_range.1 hk; simp; omega]
      simp
    · rw [ih (by omega)]
      simp [show ¬ n = i by omega]
/-- a weaver pays no more than the weaver's own cost -/
theorem share_own {n : Nat} (hn : n ≤ 6) {L : List (Int × (Nat → Bool))} (hL : ∀ x, x ∈ L → 0 ≤ x.1) {i : Nat} (hi : i < n) : shareH n L i ≤ 60 * costQ n L (fun k => decide (k = i)) := by
  have := share_group hn hL (fun k => decide (k = i))
  rw [filter_one hi] at this
  simpa using this
/-- what a weaver adds to those that came before -/
theorem cost_add {n : Nat} {L : List (Int × (Nat → Bool))} {p : Nat → Bool} {i : Nat} (hi : i < n) :
    costQ n L (fun k => p k || decide (k = i)) - costQ n L p = (L.map fun x => if x.2 i && !hitQ n x.2 p then x.1 else 0).sum := by
  unfold costQ
  have : ∀ l : List (Int × (Nat → Bool)), (l.map fun x => if hitQ n x.2 (fun k => p k || decide (k = i)) then x.1 else 0).sum = (l.map fun x => if hitQ n x.2 p then x.1 else 0).sum + (l.map fun x => if x.2 i && !hitQ n x.2 p then x.1 else 0).sum := fun l => by
    rw [← sum_add]
    refine sum_eq _ _ l fun x _ => ?_
    have e : hitQ n x.2 (fun k => p k || decide (k = i)) = (hitQ n x.2 p || x.2 i) := by
      rw [Bool.eq_iff_iff, Bool.or_eq_true, hitQ_iff, hitQ_iff]
      constructor
      · rintro ⟨k, hk, h1, h2⟩
        rw [Bool.or_eq_true, decide_eq_true_eq] at h2
        rcases h2 with h2 | rfl
        · exact .inl ⟨k, hk, h1, h2⟩
        · exact .inr h1
      · rintro (⟨k, hk, h1, h2⟩ | h)
        · exact ⟨k, hk, h1, by simp [h2]⟩
        · exact ⟨i, hi, h, by simp⟩
    rw [e]
    cases hitQ n x.2 p <;> cases x.2 i <;> simp
  rw [this]
  omega
/-- whoever comes later adds no more -/
theorem add_later {n : Nat} {L : List (Int × (Nat → Bool))} (hL : ∀ x, x ∈ L → 0 ≤ x.1) {p q : Nat → Bool} (h : ∀ k, k < n → p k = true → q k = true) {i : Nat} (hi : i < n) :
    costQ n L (fun k => q k || decide (k = i)) - costQ n L q ≤ costQ n L (fun k => p k || decide (k = i)) - costQ n L p := by
  rw [cost_add hi, cost_add hi]
  refine sum_le _ _ L fun x hx => ?_
  have h0 := hL x hx
  cases h1 : hitQ n x.2 p with
  | false => cases hitQ n x.2 q <;> cases x.2 i <;> simp <;> omega
  | true =>
    obtain ⟨k, hk, g1, g2⟩ := hitQ_iff.1 h1
    rw [hitQ_iff.2 ⟨k, hk, g1, h k hk g2⟩]
    cases x.2 i <;> simp
theorem add_nonneg {n : Nat} {L : List (Int × (Nat → Bool))} (hL : ∀ x, x ∈ L → 0 ≤ x.1) {p : Nat → Bool} {i : Nat} (hi : i < n) : 0 ≤ costQ n L (fun k => p k || decide (k = i)) - costQ n L p := by
  rw [cost_add hi]
  refine sum_nonneg _ L fun x hx => ?_
  have := hL x hx
  split <;> omega
end Go.Proofs.Pow

namespace Go.Proofs.Pow

structure Sh where
  up : Int
  price : Int
deriving Inhabited, DecidableEq
structure Wv where
  shaft : Int
  hours : List Int
deriving Inhabited, DecidableEq
structure PM where
  shafts : List Sh
  wvs : List Wv
def PM.sh (m : PM) (s : Nat) : Sh := m.shafts[s]?.getD default
def PM.wv (m : PM) (k : Nat) : Wv := m.wvs[k]?.getD default
/-- the line of a shaft: it and those above it -/
def lineF (m : PM) : Nat → Int → List Int
  | 0, _ => []
  | f + 1, s => if s < 0 then [] else s :: lineF m f (m.sh s.toNat).up
def PM.line (m : PM) (s : Int) : List Int := lineF m m.shafts.length s
def PM.drv (m : PM) (s k : Nat) : Bool := (m.line (m.wv k).shaft).contains (s : Int)
/-- each shaft is driven by one before it -/
def UpOk (m : PM) : Prop := ∀ s, s < m.shafts.length → -1 ≤ (m.sh s).up ∧ (m.sh s).up < s
theorem lineF_more (m : PM) (h : UpOk m) : ∀ (f g : Nat) (s : Int), s < (m.shafts.length : Int) → s < (f : Int) → f ≤ g → lineF m g s = lineF m f s
  | 0, 0, _, _, _, _ => rfl
  | 0, g + 1, s, _, h1, _ => by
    unfold lineF; rw [if_pos (by omega)]
  | f + 1, 0, _, _, _, h2 => by omega
  | f + 1, g + 1, s, hs, h1, h2 => by
    unfold lineF
    by_cases h0 : s < 0
    · rw [if_pos h0, if_pos h0]
    · rw [if_neg h0, if_neg h0]
      have := h s.toNat (by omega)
      rw [lineF_more m h f g _ (by omega) (by omega) (by omega)]
theorem line_neg (m : PM) {s : Int} (h : s < 0) : m.line s = [] := by
  unfold PM.line
  cases m.shafts.length with
  | zero => rfl
  | succ n => unfold lineF; rw [if_pos h]
theorem line_cons (m : PM) (h : UpOk m) {s : Nat} (hs : s < m.shafts.length) : m.line s = (s : Int) :: m.line (m.sh s).up := by
  unfold PM.line
  obtain ⟨n, hn⟩ : ∃ n, m.shafts.length = n + 1 := ⟨m.shafts.length - 1, by omega⟩
  rw [hn]
  conv => lhs; unfold lineF
  rw [if_neg (by omega)]
  have := h s hs
  show _ :: lineF m n (m.sh s).up = _
  rw [lineF_more m h n (n + 1) _ (by omega) (by omega) (by omega)]
/-- the elements of a line: from it downward, each once -/
theorem line_mem (m : PM) (h : UpOk m) : ∀ s : Nat, s < m.shafts.length → ∀ x, x ∈ m.line s → 0 ≤ x ∧ x ≤ s := by
  intro s
  induction s using Nat.strongRecOn with
  | _ s ih =>
    intro hs x hx
    rw [line_cons m h hs] at hx
    rcases List.mem_cons.1 hx with rfl | hx
    · omega
    · have hu := h s hs
      rcases Int.lt_or_le (m.sh s).up 0 with h0 | h0
      · rw [line_neg m h0] at hx; cases hx
      · obtain ⟨u, hu'⟩ : ∃ u : Nat, (m.sh s).up = u := ⟨_, (Int.toNat_of_nonneg h0).symm⟩
        rw [hu'] at hx hu
        have := ih u (by omega) (by omega) x hx
        omega
theorem line_down (m : PM) (h : UpOk m) : ∀ s : Nat, s < m.shafts.length → (m.line s).Pairwise (· > ·) := by
  intro s
  induction s using Nat.strongRecOn with
  | _ s ih =>
    intro hs
    rw [line_cons m h hs]
    have hu := h s hs
    rcases Int.lt_or_le (m.sh s).up 0 with h0 | h0
    · rw [line_neg m h0]; exact List.pairwise_singleton _ _
    · obtain ⟨u, hu'⟩ : ∃ u : Nat, (m.sh s).up = u := ⟨_, (Int.toNat_of_nonneg h0).symm⟩
      rw [hu'] at hu ⊢
      refine List.pairwise_cons.2 ⟨fun x hx => ?_, ih u (by omega) (by omega)⟩
      have := line_mem m h u (by omega) x hx
      omega
/-- a line goes on from each of its shafts as that one's line does -/
theorem line_tail (m : PM) (h : UpOk m) : ∀ s : Nat, s < m.shafts.length → ∀ v : Nat, (v : Int) ∈ m.line s → ∀ x, x ≤ (v : Int) → (x ∈ m.line s ↔ x ∈ m.line v) := by
  intro s
  induction s using Nat.strongRecOn with
  | _ s ih =>
    intro hs v hv x hx
    have hvs := line_mem m h s hs v hv
    rw [line_cons m h hs] at hv
    rcases List.mem_cons.1 hv with e | hv
    · have : v = s := by omega
      subst this; exact Iff.rfl
    · have hu := h s hs
      rcases Int.lt_or_le (m.sh s).up 0 with h0 | h0
      · rw [line_neg m h0] at hv; cases hv
      · obtain ⟨u, hu'⟩ : ∃ u : Nat, (m.sh s).up = u := ⟨_, (Int.toNat_of_nonneg h0).symm⟩
        rw [line_cons m h hs]
        rw [hu'] at hv hu ⊢
        have hlv := line_mem m h u (by omega) v hv
        rw [List.mem_cons, ← ih u (by omega) (by omega) v hv x hx]
        exact ⟨fun g => g.resolve_left (by omega), .inr⟩
/-! Shafts that are not cleared on lines; those that meet all lines, and lines that have none in common. -/
def opn (m : PM) (cl : Int → Bool) (k : Nat) : List Int := (m.line (m.wv k).shaft).filter fun s => !cl s
/-- each weaver is at a shaft -/
def AtOk (m : PM) : Prop := ∀ k, k < m.wvs.length → 0 ≤ (m.wv k).shaft ∧ (m.wv k).shaft < m.shafts.length
def topF (m : PM) (cl : Int → Bool) (k : Nat) : Int := ((opn m cl k).getLast?).getD 0
section
variable {m : PM} (hu : UpOk m) (ha : AtOk m) {cl : Int → Bool}
include hu ha
theorem opn_mem {k : Nat} (hk : k < m.wvs.length) {x : Int} (hx : x ∈ opn m cl k) : 0 ≤ x ∧ x < m.shafts.length ∧ cl x = false := by
  unfold opn at hx
  rw [List.mem_filter] at hx
  obtain ⟨h1, h2⟩ := ha k hk
  obtain ⟨s, hs⟩ : ∃ s : Nat, (m.wv k).shaft = s := ⟨_, (Int.toNat_of_nonneg h1).symm⟩
  rw [hs] at hx h2
  have := line_mem m hu s (by omega) x hx.1
  exact ⟨this.1, by omega, by simpa using hx.2⟩
theorem opn_down {k : Nat} (hk : k < m.wvs.length) : (opn m cl k).Pairwise (· > ·) := by
  obtain ⟨h1, h2⟩ := ha k hk
  obtain ⟨s, hs⟩ : ∃ s : Nat, (m.wv k).shaft = s := ⟨_, (Int.toNat_of_nonneg h1).symm⟩
  unfold opn
  rw [hs]
  rw [hs] at h2
  exact (line_down m hu s (by omega)).filter _
omit hu ha in
theorem top_mem {k : Nat} (hne : opn m cl k ≠ []) : topF m cl k ∈ opn m cl k := by
  unfold topF
  rw [List.getLast?_eq_some_getLast hne]
  exact List.getLast_mem hne
theorem top_le {k : Nat} (hk : k < m.wvs.length) {x : Int} (hx : x ∈ opn m cl k) : topF m cl k ≤ x := by
  have hne : opn m cl k ≠ [] := List.ne_nil_of_mem hx
  have hd := opn_down hu ha (cl := cl) hk
  unfold topF
  rw [List.getLast?_eq_some_getLast hne]
  show (opn m cl k).getLast hne ≤ x
  obtain ⟨pre, e⟩ : ∃ pre, opn m cl k = pre ++ [(opn m cl k).getLast hne] := ⟨_, (List.dropLast_concat_getLast hne).symm⟩
  rw [e] at hd hx
  rw [List.pairwise_append] at hd
  rcases List.mem_append.1 hx with hx | hx
  · exact Int.le_of_lt (hd.2.2 x hx _ (by simp))
  · rw [List.mem_singleton] at hx; omega
theorem opn_tail {a b : Nat} (hka : a < m.wvs.length) (hkb : b < m.wvs.length) {v : Int} (h1 : v ∈ opn m cl a) (h2 : v ∈ opn m cl b) {x : Int} (hx : x ≤ v) : x ∈ opn m cl a ↔ x ∈ opn m cl b := by
  have hv := opn_mem hu ha hka h1
  obtain ⟨a1, a2⟩ := ha a hka; obtain ⟨b1, b2⟩ := ha b hkb
  obtain ⟨s, hs⟩ : ∃ s : Nat, (m.wv a).shaft = s := ⟨_, (Int.toNat_of_nonneg a1).symm⟩
  obtain ⟨t, ht⟩ : ∃ t : Nat, (m.wv b).shaft = t := ⟨_, (Int.toNat_of_nonneg b1).symm⟩
  obtain ⟨u, rfl⟩ : ∃ u : Nat, v = u := ⟨_, (Int.toNat_of_nonneg hv.1).symm⟩
  unfold opn at h1 h2 ⊢
  rw [hs] at h1 ⊢; rw [ht] at h2 ⊢
  rw [List.mem_filter] at h1 h2 ⊢
  rw [List.mem_filter, line_tail m hu s (by omega) u h1.1 x hx, line_tail m hu t (by omega) u h2.1 x hx]
/-- lines that have an open shaft in common have the same uppermost one -/
theorem top_same {a b : Nat} (hka : a < m.wvs.length) (hkb : b < m.wvs.length) {v : Int} (h1 : v ∈ opn m cl a) (h2 : v ∈ opn m cl b) : topF m cl a = topF m cl b := by
  have na : opn m cl a ≠ [] := List.ne_nil_of_mem h1
  have nb : opn m cl b ≠ [] := List.ne_nil_of_mem h2
  have e1 := top_le hu ha hka h1; have e2 := top_le hu ha hkb h2
  have i1 := (opn_tail hu ha hka hkb h1 h2 e1).1 (top_mem na)
  have i2 := (opn_tail hu ha hka hkb h1 h2 e2).2 (top_mem nb)
  have := top_le hu ha hkb i1; have := top_le hu ha hka i2
  omega
end
theorem nodup_le {α : Type} [DecidableEq α] : ∀ {l r : List α}, l.Nodup → (∀ x, x ∈ l → x ∈ r) → l.length ≤ r.length
  | [], r, _, _ => Nat.zero_le _
  | a :: l, r, h, hs => by
    rw [List.nodup_cons] at h
    have hm := hs a (by simp)
    have := nodup_le (l := l) (r := r.erase a) h.2 fun x hx => (List.mem_erase_of_ne (fun e => h.1 (by rw [← e]; exact hx))).2 (hs x (by simp [hx]))
    rw [List.length_erase_of_mem hm] at this
    have := List.length_pos_of_mem hm
    rw [List.length_cons]; omega
theorem nodup_map {α β : Type} {f : α → β} : ∀ {l : List α}, l.Nodup → (∀ x y, x ∈ l → y ∈ l → f x = f y → x = y) → (l.map f).Nodup := by
  intro l h hf
  rw [List.nodup_iff_pairwise_ne, List.pairwise_map]
  exact (List.nodup_iff_pairwise_ne.1 h).imp_of_mem fun {a b} ha hb hab e => hab (hf a b ha hb e)
/-- weavers no two of whom have an open shaft in common are no more than shafts that meet all their lines -/
theorem weak {m : PM} {cl : Int → Bool} {D : List Nat} {E : List Int} (hD : D.Nodup) (hdis : ∀ a b, a ∈ D → b ∈ D → a ≠ b → ∀ v, v ∈ opn m cl a → v ∉ opn m cl b) (hE : ∀ k, k ∈ D → ∃ v, v ∈ E ∧ v ∈ opn m cl k) : D.length ≤ E.length := by
  have hch : ∀ k, ∃ v, k ∈ D → v ∈ E ∧ v ∈ opn m cl k := fun k => by
    by_cases hk : k ∈ D
    · obtain ⟨v, h⟩ := hE k hk; exact ⟨v, fun _ => h⟩
    · exact ⟨0, fun h => absurd h hk⟩
  obtain ⟨f, hf⟩ : ∃ f : Nat → Int, ∀ k, k ∈ D → f k ∈ E ∧ f k ∈ opn m cl k := ⟨fun k => Classical.choose (hch k), fun k => Classical.choose_spec (hch k)⟩
  have := nodup_le (l := D.map f) (r := E) (nodup_map hD fun x y hx hy e => Classical.byContradiction fun hne => hdis x y hx hy hne (f x) (hf x hx).2 (e ▸ (hf y hy).2)) fun x hx => by
    obtain ⟨k, hk, rfl⟩ := List.mem_map.1 hx; exact (hf k hk).1
  simpa using this
/-- as many weavers, no two of whom have an open shaft in common, as shafts that meet the lines of all -/
theorem strong {m : PM} (hu : UpOk m) (ha : AtOk m) {cl : Int → Bool} {K : List Nat} (hK : K.Pairwise (· < ·)) (hk : ∀ k, k ∈ K → k < m.wvs.length ∧ opn m cl k ≠ []) :
    ∃ (D : List Nat) (E : List Nat), D.Pairwise (· < ·) ∧ (∀ k, k ∈ D → k ∈ K) ∧ (∀ a b, a ∈ D → b ∈ D → a ≠ b → ∀ v, v ∈ opn m cl a → v ∉ opn m cl b) ∧
      E.Pairwise (· < ·) ∧ (∀ e, e ∈ E → e < m.shafts.length ∧ cl (e : Int) = false) ∧ (∀ k, k ∈ K → ∃ e : Nat, e ∈ E ∧ (e : Int) ∈ opn m cl k) ∧ D.length = E.length := by
  refine ⟨K.filter fun k => !(K.any fun j => decide (j < k) && decide (topF m cl j = topF m cl k)), (List.range m.shafts.length).filter fun e => K.any fun k => decide (topF m cl k = (e : Int)), hK.filter _, fun k h => (List.mem_filter.1 h).1, ?_, List.pairwise_lt_range.filter _, ?_, ?_, ?_⟩
  · intro a b h1 h2 hne v g1 g2
    rw [List.mem_filter] at h1 h2
    have e := top_same hu ha (hk a h1.1).1 (hk b h2.1).1 g1 g2
    rcases Nat.lt_or_gt_of_ne hne with h | h
    · have := h2.2
      rw [Bool.not_eq_true', List.any_eq_false] at this
      exact this a h1.1 (by rw [decide_eq_true h, decide_eq_true e]; rfl)
    · have := h1.2
      rw [Bool.not_eq_true', List.any_eq_false] at this
      exact this b h2.1 (by rw [decide_eq_true h, decide_eq_true e.symm]; rfl)
  · intro e he
    rw [List.mem_filter, List.mem_range, List.any_eq_true] at he
    obtain ⟨h1, k, h2, h3⟩ := he
    refine ⟨h1, ?_⟩
    have := opn_mem hu ha (hk k h2).1 (top_mem (hk k h2).2)
    rw [of_decide_eq_true h3] at this
    exact this.2.2
  · intro k h
    have h1 := top_mem (hk k h).2
    have h2 := opn_mem hu ha (hk k h).1 h1
    obtain ⟨t, ht⟩ : ∃ t : Nat, topF m cl k = t := ⟨_, (Int.toNat_of_nonneg h2.1).symm⟩
    rw [ht] at h1 h2
    refine ⟨t, List.mem_filter.2 ⟨List.mem_range.2 (by omega), List.any_eq_true.2 ⟨k, h, decide_eq_true ht⟩⟩, h1⟩
  · apply Nat.le_antisymm
    · have := nodup_le (l := (K.filter fun k => !(K.any fun j => decide (j < k) && decide (topF m cl j = topF m cl k))).map (topF m cl)) (r := ((List.range m.shafts.length).filter fun e : Nat => K.any fun k => decide (topF m cl k = (e : Int))).map fun e : Nat => (e : Int)) (nodup_map ?_ ?_) ?_
      · simpa using this
      · exact (List.nodup_iff_pairwise_ne.2 (hK.imp fun h => by omega)).filter _
      · intro x y hx hy e
        rw [List.mem_filter] at hx hy
        rcases Nat.lt_trichotomy x y with h | h | h
        · have := hy.2
          rw [Bool.not_eq_true', List.any_eq_false] at this
          exact absurd (by rw [decide_eq_true h, decide_eq_true e]; rfl) (this x hx.1)
        · exact h
        · have := hx.2
          rw [Bool.not_eq_true', List.any_eq_false] at this
          exact absurd (by rw [decide_eq_true h, decide_eq_true e.symm]; rfl) (this y hy.1)
      · intro x hx
        obtain ⟨k, hk', rfl⟩ := List.mem_map.1 hx
        rw [List.mem_filter] at hk'
        have h2 := opn_mem hu ha (hk k hk'.1).1 (top_mem (hk k hk'.1).2)
        obtain ⟨t, ht⟩ : ∃ t : Nat, topF m cl k = t := ⟨_, (Int.toNat_of_nonneg h2.1).symm⟩
        rw [ht] at h2
        exact List.mem_map.2 ⟨t, List.mem_filter.2 ⟨List.mem_range.2 (by omega), List.any_eq_true.2 ⟨k, hk'.1, decide_eq_true ht⟩⟩, ht.symm⟩
    · have := nodup_le (l := ((List.range m.shafts.length).filter fun e : Nat => K.any fun k => decide (topF m cl k = (e : Int))).map fun e : Nat => (e : Int)) (r := (K.filter fun k => !(K.any fun j => decide (j < k) && decide (topF m cl j = topF m cl k))).map (topF m cl)) (nodup_map (List.nodup_range.filter _) fun x y _ _ e => by omega) ?_
      · simpa using this
      · intro x hx
        obtain ⟨e, he, rfl⟩ := List.mem_map.1 hx
        rw [List.mem_filter, List.any_eq_true] at he
        obtain ⟨_, k, hk', e1⟩ := he
        have e1 := of_decide_eq_true e1
        -- the first one of K with this top
        cases hf : K.find? fun j => decide (topF m cl j = (e : Int)) with
        | none =>
          have := List.find?_eq_none.1 hf k hk'
          exact absurd (decide_eq_true e1) this
        | some j =>
          have hj := List.mem_of_find?_eq_some hf
          have hjt := List.find?_some hf
          have hjt := of_decide_eq_true hjt
          obtain ⟨_, pre, post, es, hno⟩ := List.find?_eq_some_iff_append.1 hf
          refine List.mem_map.2 ⟨j, List.mem_filter.2 ⟨hj, ?_⟩, hjt⟩
          rw [Bool.not_eq_true', List.any_eq_false]
          intro i hi hc
          rw [Bool.and_eq_true, decide_eq_true_eq, decide_eq_true_eq] at hc
          rw [es] at hi hK
          rw [List.pairwise_append] at hK
          rcases List.mem_append.1 hi with hi | hi
          · have := hno i hi
            rw [hc.2, hjt] at this; simp at this
          · rcases List.mem_cons.1 hi with rfl | hi
            · omega
            · have := (List.pairwise_cons.1 hK.2.1).1 i hi; omega
end Go.Proofs.Pow

namespace Go.Proofs.Pow

/-- weaver k uses power of shaft s in the hour h -/
def usesB (m : PM) (s h k : Nat) : Bool := m.drv s k && (m.wv k).hours.contains (h : Int)
def spotL (S : Nat) : List (Nat × Nat) := (List.range S).flatMap fun s => (List.range 24).map fun h => (s, h)
def spots (m : PM) : List (Int × (Nat → Bool)) := (spotL m.shafts.length).map fun x => ((m.sh x.1).price, usesB m x.1 x.2)
theorem mem_spotL {S s h : Nat} : (s, h) ∈ spotL S ↔ s < S ∧ h < 24 := by
  unfold spotL
  rw [List.mem_flatMap]
  constructor
  · rintro ⟨s', h1, h2⟩
    obtain ⟨h', h3, e⟩ := List.mem_map.1 h2
    cases e
    exact ⟨List.mem_range.1 h1, List.mem_range.1 h3⟩
  · rintro ⟨h1, h2⟩
    exact ⟨s, List.mem_range.2 h1, List.mem_map.2 ⟨h, List.mem_range.2 h2, rfl⟩⟩
theorem spotL_succ (S : Nat) : spotL (S + 1) = spotL S ++ (List.range 24).map fun h => (S, h) := by
  unfold spotL; rw [show List.range (S + 1) = List.range S ++ [S] from List.range_succ, List.flatMap_append]; simp
theorem spotL_nodup : ∀ S, (spotL S).Nodup
  | 0 => by simp [spotL]
  | S + 1 => by
    rw [spotL_succ, List.nodup_append]
    refine ⟨spotL_nodup S, ?_, ?_⟩
    · rw [List.nodup_iff_pairwise_ne, List.pairwise_map]
      exact (List.nodup_iff_pairwise_ne.1 List.nodup_range).imp fun h e => h (by cases e; rfl)
    · intro a ha b hb e
      subst e
      obtain ⟨s, h⟩ := a
      obtain ⟨h', _, e⟩ := List.mem_map.1 hb
      cases e
      have := (mem_spotL.1 ha).1
      omega
theorem sum_flat (f : Nat × Nat → Int) : ∀ S, ((spotL S).map f).sum = ((List.range S).map fun s => ((List.range 24).map fun h => f (s, h)).sum).sum
  | 0 => by simp [spotL]
  | S + 1 => by
    rw [spotL_succ, List.map_append, List.sum_append, sum_flat f S, show List.range (S + 1) = List.range S ++ [S] from List.range_succ, List.map_append, List.sum_append, List.map_map]
    simp only [List.map_cons, List.map_nil, List.sum_cons, List.sum_nil, Int.add_zero]
    rfl
/-- hours first -/
theorem sum_flat' (f : Nat × Nat → Int) (S : Nat) : ((spotL S).map f).sum = ((List.range 24).map fun h => ((List.range S).map fun s => f (s, h)).sum).sum := by
  rw [sum_flat, sum_swap]
theorem sum_upd {α : Type} [DecidableEq α] (f g : α → Int) {a : α} (h0 : f a = 0) : ∀ {l : List α}, l.Nodup → a ∈ l → (∀ x, x ∈ l → x ≠ a → g x = f x) → (l.map g).sum = (l.map f).sum + g a
  | b :: l, hn, ha, h => by
    obtain ⟨hb, hn⟩ := List.nodup_cons.1 hn
    simp only [List.map_cons, List.sum_cons]
    by_cases e : b = a
    · subst e
      rw [h0, sum_eq g f l fun x hx => h x (by simp [hx]) fun e => hb (e ▸ hx)]
      omega
    · rw [sum_upd f g h0 hn ((List.mem_cons.1 ha).resolve_left fun h => e h.symm) fun x hx hne => h x (by simp [hx]) hne, h b (by simp) e]
      omega
/-- the prices of what is marked -/
def sumM (m : PM) (mk : Nat → Nat → Bool) : Int := ((spotL m.shafts.length).map fun x => if mk x.1 x.2 then (m.sh x.1).price else 0).sum
theorem sumM_none (m : PM) : sumM m (fun _ _ => false) = 0 := by
  unfold sumM
  exact sum_zero' _ _ fun x _ => by simp
theorem sumM_mark {m : PM} {mk mk' : Nat → Nat → Bool} {s h : Nat} (hs : s < m.shafts.length) (hh : h < 24) (h0 : mk s h = false) (h1 : ∀ s' h', mk' s' h' = (mk s' h' || (decide (s' = s) && decide (h' = h)))) : sumM m mk' = sumM m mk + (m.sh s).price := by
  unfold sumM
  rw [sum_upd (fun x : Nat × Nat => if mk x.1 x.2 then (m.sh x.1).price else 0) (fun x => if mk' x.1 x.2 then (m.sh x.1).price else 0) (a := (s, h)) (by simp [h0]) (spotL_nodup _) (mem_spotL.2 ⟨hs, hh⟩) ?_]
  · simp [h1]
  · rintro ⟨s', h'⟩ _ hne
    have : (decide (s' = s) && decide (h' = h)) = false := by
      rw [Bool.and_eq_false_iff, decide_eq_false_iff_not, decide_eq_false_iff_not]
      by_cases e : s' = s
      · exact .inr fun e' => hne (by rw [e, e'])
      · exact .inl e
    rw [h1, this]; simp
theorem sumM_congr {m : PM} {mk mk' : Nat → Nat → Bool} (h : ∀ s h, s < m.shafts.length → h < 24 → mk s h = mk' s h) : sumM m mk = sumM m mk' := by
  unfold sumM
  refine sum_eq _ _ _ ?_
  rintro ⟨s, t⟩ hx
  obtain ⟨h1, h2⟩ := mem_spotL.1 hx
  rw [h s t h1 h2]
/-- what a group costs: those of p -/
def costF (m : PM) (p : Nat → Bool) : Int := costQ m.wvs.length (spots m) p
theorem costF_sumM (m : PM) (p : Nat → Bool) : costF m p = sumM m fun s h => hitQ m.wvs.length (usesB m s h) p := by
  unfold costF costQ spots sumM
  rw [List.map_map]
  rfl
def shareP (m : PM) (k : Nat) : Int := shareH m.wvs.length (spots m) k
structure POk (m : PM) : Prop where
  sz : 1 ≤ m.shafts.length ∧ m.shafts.length ≤ 9
  few : m.wvs.length ≤ 6
  price : ∀ s, s < m.shafts.length → 0 ≤ (m.sh s).price ∧ (m.sh s).price ≤ 60
  hour : ∀ k, k < m.wvs.length → ∀ h, h ∈ (m.wv k).hours → 0 ≤ h ∧ h ≤ 23
  up : UpOk m
  at_ : AtOk m
  rise : ∀ k, k < m.wvs.length → (m.wv k).hours.Pairwise (· < ·)
theorem POk.spots {m : PM} (h : POk m) : ∀ x, x ∈ spots m → 0 ≤ x.1 := fun x hx => by
  unfold Pow.spots at hx
  obtain ⟨⟨s, t⟩, h1, rfl⟩ := List.mem_map.1 hx
  exact (h.price s (mem_spotL.1 h1).1).1
theorem POk.nodup {m : PM} (h : POk m) {k : Nat} (hk : k < m.wvs.length) : (m.wv k).hours.Nodup := List.nodup_iff_pairwise_ne.2 ((h.rise k hk).imp fun h => by omega)
/-- the shares come to the whole cost, no group has more; each pays no more than the own cost -/
theorem POk.total {m : PM} (h : POk m) : ((List.range m.wvs.length).map (shareP m)).sum = 60 * costF m (fun _ => true) := share_total h.few _
theorem POk.group {m : PM} (h : POk m) (p : Nat → Bool) : (((List.range m.wvs.length).filter p).map (shareP m)).sum ≤ 60 * costF m p := share_group h.few h.spots p
theorem POk.own {m : PM} (h : POk m) {k : Nat} (hk : k < m.wvs.length) : shareP m k ≤ 60 * costF m (fun i => decide (i = k)) := share_own h.few h.spots hk
theorem POk.nonneg {m : PM} (h : POk m) (k : Nat) : 0 ≤ shareP m k := share_nonneg h.spots k
/-- a weaver who uses no power pays nothing -/
theorem share_idle {m : PM} {k : Nat} (h : (m.wv k).hours = []) : shareP m k = 0 := by
  unfold shareP shareH spots
  rw [List.map_map]
  refine sum_zero' _ _ fun x _ => ?_
  simp [usesB, h]
/-- weavers of the same shaft and hours pay the same -/
theorem share_same {m : PM} {i k : Nat} (h : m.wv i = m.wv k) : shareP m i = shareP m k := by
  unfold shareP shareH spots
  rw [List.map_map, List.map_map]
  refine sum_eq _ _ _ fun x _ => ?_
  have : usesB m x.1 x.2 i = usesB m x.1 x.2 k := by unfold usesB PM.drv; rw [h]
  simp only [Function.comp_apply, this]
/-- alone a weaver pays all -/
theorem div_mono {w u u' : Int} (hw : 0 ≤ w) (hu : 0 < u) (huu : u ≤ u') (h6 : u' ≤ 6) : 60 * w / u' ≤ 60 * w / u := by
  have h1 := sixty hu (by omega) w
  have h2 := sixty (show 0 < u' by omega) h6 w
  have h3 : 0 ≤ 60 * w / u' := Int.ediv_nonneg (by omega) (by omega)
  rcases Int.lt_or_le (60 * w / u) (60 * w / u') with h | h
  · exfalso
    have h4 : 60 * w / u * u < 60 * w / u' * u := Int.mul_lt_mul_of_pos_right h hu
    have h5 : 60 * w / u' * u ≤ 60 * w / u' * u' := Int.mul_le_mul_of_nonneg_left huu h3
    omega
  · exact h
theorem cntU_mono {n : Nat} {U V : Nat → Bool} (h : ∀ k, k < n → U k = true → V k = true) : cntU n U ≤ cntU n V := by
  unfold cntU
  have : (List.range n).filter U = ((List.range n).filter V).filter U := by
    rw [List.filter_filter]
    refine List.filter_congr fun k hk => ?_
    have := h k (List.mem_range.1 hk)
    cases h1 : U k with
    | false => simp
    | true => rw [this h1]; simp
  rw [this]
  exact List.length_filter_le _ _
/-- an hour more of weaver k, if all else is as it was: nobody else pays more -/
theorem share_more {m m' : PM} (h : POk m) (hs : m'.shafts = m.shafts) (hn : m'.wvs.length = m.wvs.length) {x : Nat} (hx : x < m.wvs.length)
    (hu : ∀ s h k, k < m.wvs.length → usesB m s h k = true → usesB m' s h k = true) (hxx : ∀ s h, usesB m' s h x = usesB m s h x) : shareP m' x ≤ shareP m x := by
  unfold shareP shareH spots
  rw [List.map_map, List.map_map, hs, hn]
  refine sum_le _ _ _ ?_
  rintro ⟨s, t⟩ hm
  have hp := (h.price s (mem_spotL.1 hm).1).1
  simp only [Function.comp_apply, hxx]
  have e : (m'.sh s).price = (m.sh s).price := by unfold PM.sh; rw [hs]
  cases h1 : usesB m s t x with
  | false => simp
  | true =>
    simp only [if_pos, e]
    exact div_mono hp (by have := cntU_pos hx h1; omega) (by have := cntU_mono (n := m.wvs.length) (U := usesB m s t) (V := usesB m' s t) fun k hk => hu s t k hk; omega) (by have := cntU_le m.wvs.length (usesB m' s t); have := h.few; omega)
end Go.Proofs.Pow

namespace Go.Proofs.Pow

/-! Lists of numbers below n in increasing order, by their lengths, then in lexicographic order: the first one of a kind. -/
def cmb (n : Nat) : Nat → Nat → List (List Nat)
  | 0, _ => [[]]
  | r + 1, a => (List.range' a (n - a)).flatMap fun k => (cmb n r (k + 1)).map (k :: ·)
/-- a comes before b -/
def ahead : List Nat → List Nat → Bool
  | [], [] => false
  | [], _ :: _ => true
  | _ :: _, [] => false
  | a :: xs, b :: ys => if a = b then ahead xs ys else decide (a < b)
def before (a b : List Nat) : Bool := if a.length = b.length then ahead a b else decide (a.length < b.length)
theorem ahead_irr : ∀ a : List Nat, ahead a a = false
  | [] => rfl
  | x :: a => by unfold ahead; rw [if_pos rfl, ahead_irr a]
theorem ahead_total : ∀ a b : List Nat, ahead a b = false → ahead b a = false → a = b
  | [], [], _, _ => rfl
  | [], _ :: _, h, _ => by simp [ahead] at h
  | _ :: _, [], _, h => by simp [ahead] at h
  | a :: xs, b :: ys, h1, h2 => by
    unfold ahead at h1 h2
    by_cases e : a = b
    · subst e
      simp only [if_true] at h1 h2
      rw [ahead_total xs ys h1 h2]
    · rw [if_neg e, decide_eq_false_iff_not] at h1
      rw [if_neg (fun h => e h.symm), decide_eq_false_iff_not] at h2
      omega
theorem ahead_anti : ∀ a b : List Nat, ahead a b = true → ahead b a = false
  | [], [], h => by simp [ahead] at h
  | [], _ :: _, _ => rfl
  | _ :: _, [], h => by simp [ahead] at h
  | a :: xs, b :: ys, h => by
    unfold ahead at h ⊢
    by_cases e : a = b
    · subst e
      simp only [if_true] at h ⊢
      exact ahead_anti xs ys h
    · rw [if_neg e, decide_eq_true_eq] at h
      rw [if_neg (fun h => e h.symm), decide_eq_false_iff_not]
      omega
theorem before_irr (a : List Nat) : before a a = false := by unfold before; rw [if_pos rfl]; exact ahead_irr a
theorem before_total (a b : List Nat) (h1 : before a b = false) (h2 : before b a = false) : a = b := by
  unfold before at h1 h2
  by_cases e : a.length = b.length
  · rw [if_pos e] at h1
    rw [if_pos e.symm] at h2
    exact ahead_total a b h1 h2
  · rw [if_neg e, decide_eq_false_iff_not] at h1
    rw [if_neg (fun h => e h.symm), decide_eq_false_iff_not] at h2
    omega
theorem before_anti (a b : List Nat) (h : before a b = true) : before b a = false := by
  unfold before at h ⊢
  by_cases e : a.length = b.length
  · rw [if_pos e] at h; rw [if_pos e.symm]; exact ahead_anti a b h
  · rw [if_neg e, decide_eq_true_eq] at h
    rw [if_neg (fun h => e h.symm), decide_eq_false_iff_not]; omega
/-- increasing, from a on, below n -/
def Up (n a : Nat) (l : List Nat) : Prop := l.Pairwise (· < ·) ∧ ∀ x, x ∈ l → a ≤ x ∧ x < n
theorem mem_cmb (n : Nat) : ∀ r a l, l ∈ cmb n r a ↔ l.length = r ∧ Up n a l
  | 0, a, l => by
    unfold cmb
    rw [List.mem_singleton, List.length_eq_zero_iff]
    exact ⟨fun h => ⟨h, by subst h; exact ⟨List.Pairwise.nil, by simp⟩⟩, (·.1)⟩
  | r + 1, a, l => by
    unfold cmb
    rw [List.mem_flatMap]
    constructor
    · rintro ⟨k, hk, hl⟩
      rw [List.mem_range'_1] at hk
      obtain ⟨t, ht, rfl⟩ := List.mem_map.1 hl
      obtain ⟨h1, h2, h3⟩ := (mem_cmb n r (k + 1) t).1 ht
      refine ⟨by rw [List.length_cons, h1], List.pairwise_cons.2 ⟨fun x hx => by have := h3 x hx; omega, h2⟩, fun x hx => ?_⟩
      rcases List.mem_cons.1 hx with rfl | hx
      · omega
      · have := h3 x hx; omega
    · rintro ⟨h1, h2, h3⟩
      match l, h1 with
      | k :: t, h1 =>
        rw [List.pairwise_cons] at h2
        have hk := h3 k (by simp)
        refine ⟨k, by rw [List.mem_range'_1]; omega, List.mem_map.2 ⟨t, (mem_cmb n r (k + 1) t).2 ⟨by simpa using h1, h2.2, fun x hx => ?_⟩, rfl⟩⟩
        have := h2.1 x hx; have := h3 x (by simp [hx]); omega
theorem cmb_order (n : Nat) : ∀ r a, (cmb n r a).Pairwise fun x y => ahead x y = true
  | 0, _ => List.pairwise_singleton _ _
  | r + 1, a => by
    unfold cmb
    rw [List.pairwise_flatMap]
    refine ⟨fun k _ => ?_, ?_⟩
    · rw [List.pairwise_map]
      refine (cmb_order n r (k + 1)).imp fun {x y} h => ?_
      unfold ahead; rw [if_pos rfl]; exact h
    · refine (List.pairwise_lt_range' (step := 1)).imp fun {i j} hij => ?_
      intro x hx y hy
      obtain ⟨x', _, rfl⟩ := List.mem_map.1 hx
      obtain ⟨y', _, rfl⟩ := List.mem_map.1 hy
      unfold ahead
      rw [if_neg (by omega)]; exact decide_eq_true hij
/-- all of them in their order -/
def allF (n : Nat) : List (List Nat) := (List.range (n + 1)).flatMap fun r => cmb n r 0
theorem up_len {n : Nat} : ∀ {a : Nat} {l : List Nat}, Up n a l → l.length ≤ n - a
  | a, [], _ => Nat.zero_le _
  | a, k :: t, ⟨h1, h2⟩ => by
    rw [List.pairwise_cons] at h1
    have hk := h2 k (by simp)
    have := up_len (n := n) (a := k + 1) (l := t) ⟨h1.2, fun x hx => by have := h1.1 x hx; have := h2 x (by simp [hx]); omega⟩
    rw [List.length_cons]; omega
theorem mem_allF (n : Nat) (l : List Nat) : l ∈ allF n ↔ Up n 0 l := by
  unfold allF
  rw [List.mem_flatMap]
  constructor
  · rintro ⟨r, _, h⟩; exact ((mem_cmb n r 0 l).1 h).2
  · intro h
    have := up_len h
    exact ⟨l.length, List.mem_range.2 (by omega), (mem_cmb n _ 0 l).2 ⟨rfl, h⟩⟩
theorem allF_order (n : Nat) : (allF n).Pairwise fun x y => before x y = true := by
  unfold allF
  rw [List.pairwise_flatMap]
  refine ⟨fun r _ => (cmb_order n r 0).imp_of_mem fun {x y} hx hy h => ?_, List.pairwise_lt_range.imp fun {i j} hij x hx y hy => ?_⟩
  · have h1 := ((mem_cmb n r 0 x).1 hx).1; have h2 := ((mem_cmb n r 0 y).1 hy).1
    unfold before; rw [if_pos (by omega)]; exact h
  · have h1 := ((mem_cmb n i 0 x).1 hx).1; have h2 := ((mem_cmb n j 0 y).1 hy).1
    unfold before; rw [if_neg (by omega)]; exact decide_eq_true (by omega)
def firstF (n : Nat) (p : List Nat → Bool) : Option (List Nat) := (allF n).find? p
/-- what the first one is -/
theorem firstF_some {n : Nat} {p : List Nat → Bool} {l : List Nat} : firstF n p = some l ↔ p l = true ∧ Up n 0 l ∧ ∀ x, Up n 0 x → p x = true → before x l = false := by
  unfold firstF
  constructor
  · intro h
    have h1 := List.find?_some h
    have hm := List.mem_of_find?_eq_some h
    refine ⟨h1, (mem_allF n l).1 hm, fun x hx hp => ?_⟩
    obtain ⟨_, pre, post, e, hno⟩ := List.find?_eq_some_iff_append.1 h
    have hx' := (mem_allF n x).2 hx
    have ho := allF_order n
    rw [e] at hx' ho
    rw [List.pairwise_append] at ho
    rcases List.mem_append.1 hx' with hx' | hx'
    · have := hno x hx'
      rw [hp] at this; cases this
    · rcases List.mem_cons.1 hx' with rfl | hx'
      · exact before_irr _
      · exact before_anti _ _ ((List.pairwise_cons.1 ho.2.1).1 x hx')
  · rintro ⟨h1, h2, h3⟩
    cases h : (allF n).find? p with
    | none =>
      have := List.find?_eq_none.1 h l ((mem_allF n l).2 h2)
      exact absurd h1 this
    | some b =>
      have hb := List.find?_some h
      have hm := (mem_allF n b).1 (List.mem_of_find?_eq_some h)
      obtain ⟨_, pre, post, e, hno⟩ := List.find?_eq_some_iff_append.1 h
      have hl := (mem_allF n l).2 h2
      have ho := allF_order n
      rw [e] at hl ho
      rw [List.pairwise_append] at ho
      rcases List.mem_append.1 hl with hl | hl
      · have := hno l hl
        rw [h1] at this; cases this
      · rcases List.mem_cons.1 hl with rfl | hl
        · rfl
        · have g1 := (List.pairwise_cons.1 ho.2.1).1 l hl
          rw [h3 b hm hb] at g1; cases g1
theorem firstF_none {n : Nat} {p : List Nat → Bool} : firstF n p = none ↔ ∀ x, Up n 0 x → p x = false := by
  unfold firstF
  rw [List.find?_eq_none]
  exact ⟨fun h x hx => by simpa using h x ((mem_allF n x).2 hx), fun h x hx => by rw [h x ((mem_allF n x).1 hx)]; simp⟩
end Go.Proofs.Pow

namespace Go.Proofs.Pow

section
variable (m : PM) (s : Nat → Int)
/-- a shaft is cleared -/
def clrB (i : Nat) : Bool := (List.range m.wvs.length).any fun k => decide (s k = 1) && m.drv i k
def clI (x : Int) : Bool := clrB m s x.toNat
def opnS (k : Nat) : List Int := opn m (clI m s) k
def hitL (l : List Nat) (k : Nat) : Bool := l.any fun i => m.drv i k
def explB (l : List Nat) : Bool := (List.range m.wvs.length).all fun k => !(decide (s k = 1) && hitL m l k) && !(decide (s k = 2) && !hitL m l k)
def clashB : Bool := (List.range m.wvs.length).any fun k => decide (s k = 2) && (opnS m s k).isEmpty
/-- those that surely slipped, as they are found -/
def sureL : List Int := ((List.range m.wvs.length).filter fun k => decide (s k = 2) && decide ((opnS m s k).length = 1)).map fun k => (opnS m s k)[0]?.getD 0
def proofB (l : List Nat) : Bool := (l.all fun k => decide (s k = 2)) && decide ((l.flatMap (opnS m s)).Nodup)
end
section
variable {m : PM} {s : Nat → Int}
theorem clrB_iff {i : Nat} : clrB m s i = true ↔ ∃ k, k < m.wvs.length ∧ s k = 1 ∧ m.drv i k = true := by
  unfold clrB
  rw [List.any_eq_true]
  simp only [List.mem_range, Bool.and_eq_true, decide_eq_true_eq]
theorem hitL_iff {l : List Nat} {k : Nat} : hitL m l k = true ↔ ∃ i, i ∈ l ∧ m.drv i k = true := by
  unfold hitL; rw [List.any_eq_true]
theorem drv_iff {i k : Nat} : m.drv i k = true ↔ (i : Int) ∈ m.line (m.wv k).shaft := by
  unfold PM.drv; rw [List.contains_iff_mem]
theorem mem_opnS {k : Nat} {i : Nat} : (i : Int) ∈ opnS m s k ↔ m.drv i k = true ∧ clrB m s i = false := by
  unfold opnS opn
  rw [List.mem_filter, drv_iff]
  unfold clI
  rw [Int.toNat_natCast, Bool.not_eq_true']
/-- what explains the sights: shafts that are not cleared, some of them on each line that stopped -/
theorem explB_iff {l : List Nat} : explB m s l = true ↔ (∀ i, i ∈ l → clrB m s i = false) ∧ ∀ k, k < m.wvs.length → s k = 2 → ∃ i, i ∈ l ∧ (i : Int) ∈ opnS m s k := by
  unfold explB
  rw [List.all_eq_true]
  simp only [List.mem_range, Bool.and_eq_true, Bool.not_eq_true', Bool.and_eq_false_iff, decide_eq_false_iff_not]
  constructor
  · intro h
    have h1 : ∀ i, i ∈ l → clrB m s i = false := fun i hi => by
      rw [← Bool.not_eq_true]
      intro hc
      obtain ⟨k, hk, g1, g2⟩ := clrB_iff.1 hc
      rcases (h k hk).1 with g3 | g3
      · exact g3 g1
      · rw [hitL_iff.2 ⟨i, hi, g2⟩] at g3; cases g3
    refine ⟨h1, fun k hk h2 => ?_⟩
    rcases (h k hk).2 with g3 | g3
    · exact absurd h2 g3
    · have g3 : hitL m l k = true := by simpa using g3
      obtain ⟨i, hi, g4⟩ := hitL_iff.1 g3
      exact ⟨i, hi, mem_opnS.2 ⟨g4, h1 i hi⟩⟩
  · rintro ⟨h1, h2⟩ k hk
    refine ⟨?_, ?_⟩
    · by_cases e : s k = 1
      · refine .inr ?_
        rw [← Bool.not_eq_true]
        intro hc
        obtain ⟨i, hi, g⟩ := hitL_iff.1 hc
        have := h1 i hi
        rw [clrB_iff.2 ⟨k, hk, e, g⟩] at this
        cases this
      · exact .inl e
    · by_cases e : s k = 2
      · obtain ⟨i, hi, g⟩ := h2 k hk e
        exact .inr (by rw [hitL_iff.2 ⟨i, hi, (mem_opnS.1 g).1⟩]; rfl)
      · exact .inl e
theorem clashB_iff : clashB m s = true ↔ ∃ k, k < m.wvs.length ∧ s k = 2 ∧ opnS m s k = [] := by
  unfold clashB
  rw [List.any_eq_true]
  simp only [List.mem_range, Bool.and_eq_true, decide_eq_true_eq, List.isEmpty_iff]
theorem opnS_nat (hu : UpOk m) (ha : AtOk m) {k : Nat} (hk : k < m.wvs.length) {x : Int} (hx : x ∈ opnS m s k) : ∃ i : Nat, x = i ∧ i < m.shafts.length ∧ clrB m s i = false := by
  obtain ⟨h1, h2, h3⟩ := opn_mem hu ha hk hx
  refine ⟨x.toNat, by omega, by omega, h3⟩
/-- all shafts that are not cleared, but those of out -/
def restL (m : PM) (s : Nat → Int) (out : Nat → Bool) : List Nat := (List.range m.shafts.length).filter fun i => !clrB m s i && !out i
theorem restL_up {out : Nat → Bool} : Up m.shafts.length 0 (restL m s out) :=
  ⟨List.pairwise_lt_range.filter _, fun _x hx => ⟨Nat.zero_le _, List.mem_range.1 (List.mem_filter.1 hx).1⟩⟩
theorem mem_restL {out : Nat → Bool} {i : Nat} : i ∈ restL m s out ↔ i < m.shafts.length ∧ clrB m s i = false ∧ out i = false := by
  unfold restL
  rw [List.mem_filter, List.mem_range]
  simp only [Bool.and_eq_true, Bool.not_eq_true']
theorem restL_expl (hu : UpOk m) (ha : AtOk m) {out : Nat → Bool} (h : ∀ k, k < m.wvs.length → s k = 2 → ∃ x, x ∈ opnS m s k ∧ out x.toNat = false) : explB m s (restL m s out) = true := by
  refine explB_iff.2 ⟨fun i hi => (mem_restL.1 hi).2.1, fun k hk h2 => ?_⟩
  obtain ⟨x, hx, ho⟩ := h k hk h2
  obtain ⟨i, rfl, h3, h4⟩ := opnS_nat hu ha hk hx
  exact ⟨i, mem_restL.2 ⟨h3, h4, by simpa using ho⟩, hx⟩
/-- no shafts explain the sights just if there is a clash -/
theorem slipped_none (hu : UpOk m) (ha : AtOk m) : firstF m.shafts.length (explB m s) = none ↔ clashB m s = true := by
  rw [firstF_none]
  constructor
  · intro h
    cases hc : clashB m s with
    | true => rfl
    | false =>
      have := h (restL m s fun _ => false) restL_up
      rw [restL_expl hu ha] at this
      · cases this
      · intro k hk h2
        cases ho : opnS m s k with
        | nil => rw [clashB_iff.2 ⟨k, hk, h2, ho⟩] at hc; cases hc
        | cons x l => exact ⟨x, by simp, rfl⟩
  · intro h x _
    obtain ⟨k, hk, h2, ho⟩ := clashB_iff.1 h
    rw [← Bool.not_eq_true]
    intro he
    obtain ⟨i, _, hi⟩ := (explB_iff.1 he).2 k hk h2
    rw [ho] at hi
    simp at hi
/-- a shaft is in all lists that explain the sights just if it is the only open one of a line that stopped -/
theorem sure_iff (hu : UpOk m) (ha : AtOk m) (hc : clashB m s = false) {i : Nat} : (∀ l, Up m.shafts.length 0 l → explB m s l = true → i ∈ l) ↔ ∃ k, k < m.wvs.length ∧ s k = 2 ∧ opnS m s k = [(i : Int)] := by
  constructor
  · intro h
    refine Classical.byContradiction fun hn => ?_
    have h1 := h (restL m s fun j => decide (j = i)) restL_up (restL_expl hu ha fun k hk h2 => ?_)
    · have := (mem_restL.1 h1).2.2
      simp at this
    · refine Classical.byContradiction fun hx => hn ⟨k, hk, h2, ?_⟩
      have hall : ∀ x, x ∈ opnS m s k → x = i := fun x hxm => by
        obtain ⟨j, rfl, _, _⟩ := opnS_nat hu ha hk hxm
        refine Classical.byContradiction fun hne => hx ⟨_, hxm, ?_⟩
        rw [Int.toNat_natCast, decide_eq_false_iff_not]
        omega
      have hd := opn_down hu ha (cl := clI m s) hk
      cases ho : opnS m s k with
      | nil => rw [clashB_iff.2 ⟨k, hk, h2, ho⟩] at hc; cases hc
      | cons x l =>
        rw [ho] at hall
        have hd : (x :: l).Pairwise (· > ·) := ho ▸ hd
        have e := hall x (by simp)
        subst e
        cases l with
        | nil => rfl
        | cons y l =>
          have e2 := hall y (by simp)
          have := (List.pairwise_cons.1 hd).1 y (by simp)
          omega
  · rintro ⟨k, hk, h2, ho⟩ l _ he
    obtain ⟨j, hj, hx⟩ := (explB_iff.1 he).2 k hk h2
    rw [ho, List.mem_singleton] at hx
    have : j = i := by omega
    subst this; exact hj
theorem mem_sureL (hu : UpOk m) (ha : AtOk m) {x : Int} : x ∈ sureL m s ↔ ∃ i k : Nat, x = i ∧ k < m.wvs.length ∧ s k = 2 ∧ opnS m s k = [(i : Int)] := by
  unfold sureL
  rw [List.mem_map]
  constructor
  · rintro ⟨k, hk, rfl⟩
    rw [List.mem_filter, List.mem_range, Bool.and_eq_true, decide_eq_true_eq, decide_eq_true_eq] at hk
    obtain ⟨y, hy⟩ := List.length_eq_one_iff.1 hk.2.2
    obtain ⟨i, rfl, _, _⟩ := opnS_nat (s := s) hu ha hk.1 (by rw [hy]; simp : y ∈ opnS m s k)
    exact ⟨i, k, by rw [hy]; rfl, hk.1, hk.2.1, hy⟩
  · rintro ⟨i, k, rfl, hk, h2, ho⟩
    refine ⟨k, List.mem_filter.2 ⟨List.mem_range.2 hk, ?_⟩, by rw [ho]; rfl⟩
    rw [ho]; simp [h2]
/-- a proof: weavers that stopped, no two of whom have an open shaft in common -/
theorem proofB_iff (hu : UpOk m) (ha : AtOk m) {l : List Nat} (hl : ∀ k, k ∈ l → k < m.wvs.length) (hn : l.Nodup) : proofB m s l = true ↔ (∀ k, k ∈ l → s k = 2) ∧ ∀ a b, a ∈ l → b ∈ l → a ≠ b → ∀ v, v ∈ opnS m s a → v ∉ opnS m s b := by
  unfold proofB
  rw [Bool.and_eq_true, List.all_eq_true, decide_eq_true_eq]
  simp only [decide_eq_true_eq]
  refine and_congr_right fun _ => ?_
  rw [List.nodup_iff_pairwise_ne, List.pairwise_flatMap]
  constructor
  · rintro ⟨_, h⟩ a b h1 h2 hne v hv1 hv2
    obtain ⟨i, hi, rfl⟩ := List.mem_iff_getElem.1 h1
    obtain ⟨j, hj, rfl⟩ := List.mem_iff_getElem.1 h2
    rcases Nat.lt_trichotomy i j with e | e | e
    · exact List.pairwise_iff_getElem.1 h i j hi hj e v hv1 v hv2 rfl
    · exact hne (by subst e; rfl)
    · exact List.pairwise_iff_getElem.1 h j i hj hi e v hv2 v hv1 rfl
  · intro h
    refine ⟨fun k hk => (opn_down hu ha (cl := clI m s) (hl k hk)).imp fun h => by omega, ?_⟩
    refine (List.nodup_iff_pairwise_ne.1 hn).imp_of_mem fun {a b} h1 h2 hne x hx y hy e => ?_
    subst e
    exact h a b h1 h2 hne x hx hy
/-- the proof that is found: of each number of weavers the first one, the last that there is -/
def proveF (n : Nat) (p : List Nat → Bool) : List Nat := (List.range (n + 1)).foldl (fun b c => (firstF n fun l => decide (l.length = c) && p l).getD b) []
theorem proveF_upto {n : Nat} {p : List Nat → Bool} (h0 : p [] = true) : ∀ c, p ((List.range c).foldl (fun b c => (firstF n fun l => decide (l.length = c) && p l).getD b) []) = true ∧
    Up n 0 ((List.range c).foldl (fun b c => (firstF n fun l => decide (l.length = c) && p l).getD b) []) ∧
    ∀ x, Up n 0 x → p x = true → x.length < c → (x.length = ((List.range c).foldl (fun b c => (firstF n fun l => decide (l.length = c) && p l).getD b) []).length ∧ before x ((List.range c).foldl (fun b c => (firstF n fun l => decide (l.length = c) && p l).getD b) []) = false) ∨ x.length < ((List.range c).foldl (fun b c => (firstF n fun l => decide (l.length = c) && p l).getD b) []).length
  | 0 => ⟨h0, ⟨List.Pairwise.nil, fun x h => by simp at h⟩, fun x _ _ h => by omega⟩
  | c + 1 => by
    obtain ⟨h1, h2, h3⟩ := proveF_upto h0 c
    rw [List.range_succ, List.foldl_append]
    simp only [List.foldl_cons, List.foldl_nil]
    generalize (List.range c).foldl (fun b c => (firstF n fun l => decide (l.length = c) && p l).getD b) [] = b at *
    cases hf : firstF n fun l => decide (l.length = c) && p l with
    | none =>
      refine ⟨h1, h2, fun x hx hp hlt => ?_⟩
      rcases Nat.lt_or_eq_of_le (Nat.le_of_lt_succ hlt) with h | h
      · exact h3 x hx hp h
      · have := firstF_none.1 hf x hx
        rw [h, hp] at this
        simp at this
    | some l =>
      obtain ⟨g1, g2, g3⟩ := firstF_some.1 hf
      rw [Bool.and_eq_true, decide_eq_true_eq] at g1
      refine ⟨g1.2, g2, fun x hx hp hlt => ?_⟩
      show (x.length = l.length ∧ before x l = false) ∨ x.length < l.length
      rcases Nat.lt_or_eq_of_le (Nat.le_of_lt_succ hlt) with h | h
      · exact .inr (by omega)
      · exact .inl ⟨by omega, g3 x hx (by rw [h, hp]; simp)⟩
theorem proveF_ok {n : Nat} {p : List Nat → Bool} (h0 : p [] = true) : p (proveF n p) = true ∧ Up n 0 (proveF n p) ∧ ∀ x, Up n 0 x → p x = true → x.length ≤ (proveF n p).length ∧ (x.length = (proveF n p).length → before x (proveF n p) = false) := by
  obtain ⟨h1, h2, h3⟩ := proveF_upto (n := n) h0 (n + 1)
  refine ⟨h1, h2, fun x hx hp => ?_⟩
  have hl := up_len hx
  have h4 := h3 x hx hp (by omega)
  show x.length ≤ (proveF n p).length ∧ _
  have h4 : (x.length = (proveF n p).length ∧ before x (proveF n p) = false) ∨ x.length < (proveF n p).length := h4
  rcases h4 with h4 | h4
  · exact ⟨by omega, fun _ => h4.2⟩
  · exact ⟨by omega, fun e => absurd e (by omega)⟩
/-- as many shafts as are fewest, there are weavers in the greatest proof -/
theorem few_proof (h : POk m) {few : List Nat} (hf : firstF m.shafts.length (explB m s) = some few) : few.length = (proveF m.wvs.length (proofB m s)).length := by
  have hc : clashB m s = false := by
    cases hc : clashB m s with
    | false => rfl
    | true => rw [(slipped_none h.up h.at_).2 hc] at hf; cases hf
  obtain ⟨g1, g2, g3⟩ := firstF_some.1 hf
  obtain ⟨p1, p2, p3⟩ := proveF_ok (n := m.wvs.length) (p := proofB m s) (by simp [proofB])
  have hnd : ∀ {l : List Nat} {n : Nat}, Up n 0 l → l.Nodup := fun hl => List.nodup_iff_pairwise_ne.2 (hl.1.imp fun h => by omega)
  obtain ⟨q1, q2⟩ := (proofB_iff h.up h.at_ (fun k hk => (p2.2 k hk).2) (hnd p2)).1 p1
  obtain ⟨e1, e2⟩ := explB_iff.1 g1
  apply Nat.le_antisymm
  · obtain ⟨D, E, d1, d2, d3, d4, d5, d6, d7⟩ := strong h.up h.at_ (cl := clI m s) (K := (List.range m.wvs.length).filter fun k => decide (s k = 2)) (List.pairwise_lt_range.filter _) fun k hk => by
      rw [List.mem_filter, List.mem_range, decide_eq_true_eq] at hk
      exact ⟨hk.1, fun ho => by rw [clashB_iff.2 ⟨k, hk.1, hk.2, ho⟩] at hc; cases hc⟩
    have hE : explB m s E = true := explB_iff.2 ⟨fun i hi => (d5 i hi).2, fun k hk h2 => by
      obtain ⟨e, he, hx⟩ := d6 k (List.mem_filter.2 ⟨List.mem_range.2 hk, decide_eq_true h2⟩)
      exact ⟨e, he, hx⟩⟩
    have hb := g3 E ⟨d4, fun x hx => ⟨Nat.zero_le _, (d5 x hx).1⟩⟩ hE
    have hle : few.length ≤ E.length := by
      unfold before at hb
      by_cases e : E.length = few.length
      · omega
      · rw [if_neg e, decide_eq_false_iff_not] at hb; omega
    have hmem : ∀ k, k ∈ D → k < m.wvs.length ∧ s k = 2 := fun k hk => by
      have := d2 k hk
      rw [List.mem_filter, List.mem_range, decide_eq_true_eq] at this
      exact this
    have hD : Up m.wvs.length 0 D := ⟨d1, fun k hk => ⟨Nat.zero_le _, (hmem k hk).1⟩⟩
    have := (p3 D hD ((proofB_iff h.up h.at_ (fun k hk => (hmem k hk).1) (hnd hD)).2 ⟨fun k hk => (hmem k hk).2, d3⟩)).1
    omega
  · have := weak (m := m) (cl := clI m s) (D := proveF m.wvs.length (proofB m s)) (E := few.map fun i : Nat => (i : Int)) (hnd p2) q2 fun k hk => by
      obtain ⟨i, hi, hx⟩ := e2 k (p2.2 k hk).2 (q1 k hk)
      exact ⟨_, List.mem_map.2 ⟨i, hi, rfl⟩, hx⟩
    simpa using this
end
end Go.Proofs.Pow

namespace Go.Proofs.Pow

/-! One hour more. -/
/-- m' is m, in which weaver k0 uses power in the hour h0, too -/
structure Used (m m' : PM) (k0 : Nat) (h0 : Nat) : Prop where
  shafts : m'.shafts = m.shafts
  len : m'.wvs.length = m.wvs.length
  lt : k0 < m.wvs.length
  other : ∀ j, j ≠ k0 → m'.wv j = m.wv j
  shaft : (m'.wv k0).shaft = (m.wv k0).shaft
  hours : ∀ h : Int, (m'.wv k0).hours.contains h = ((m.wv k0).hours.contains h || decide (h = (h0 : Int)))
theorem line_shafts {m m' : PM} (h : m'.shafts = m.shafts) (s : Int) : m'.line s = m.line s := by
  have : ∀ f s, lineF m' f s = lineF m f s := by
    intro f
    induction f with
    | zero => intro s; rfl
    | succ f ih =>
      intro s
      unfold lineF
      rw [ih]
      unfold PM.sh
      rw [h]
  unfold PM.line
  rw [h, this]
theorem Used.drv {m m' : PM} {k0 h0 : Nat} (h : Used m m' k0 h0) (s k : Nat) : m'.drv s k = m.drv s k := by
  unfold PM.drv
  rw [line_shafts h.shafts]
  by_cases e : k = k0
  · subst e; rw [h.shaft]
  · rw [h.other k e]
theorem Used.uses {m m' : PM} {k0 h0 : Nat} (h : Used m m' k0 h0) (s t k : Nat) : usesB m' s t k = (usesB m s t k || (decide (k = k0) && decide (t = h0) && m.drv s k0)) := by
  unfold usesB
  rw [h.drv]
  by_cases e : k = k0
  · subst e
    rw [h.hours]
    have : decide ((t : Int) = (h0 : Int)) = decide (t = h0) := by
      rw [Bool.eq_iff_iff, decide_eq_true_eq, decide_eq_true_eq]; omega
    rw [this]
    cases m.drv s k <;> cases (m.wv k).hours.contains (t : Int) <;> simp
  · rw [h.other k e]; simp [e]
theorem Used.share {m m' : PM} {k0 h0 : Nat} (h : Used m m' k0 h0) (hm : POk m) {x : Nat} (hx : x < m.wvs.length) (hne : x ≠ k0) : shareP m' x ≤ shareP m x :=
  share_more hm h.shafts h.len hx (fun s t k _ hu => by rw [h.uses, hu]; rfl) fun s t => by rw [h.uses]; simp [hne]
/-- a shaft runs in an hour -/
def runsB (m : PM) (s h : Nat) : Bool := hitQ m.wvs.length (usesB m s h) fun _ => true
theorem Used.runs {m m' : PM} {k0 h0 : Nat} (h : Used m m' k0 h0) (s t : Nat) : runsB m' s t = (runsB m s t || (decide (t = h0) && m.drv s k0)) := by
  unfold runsB
  rw [Bool.eq_iff_iff, Bool.or_eq_true, hitQ_iff, hitQ_iff, h.len]
  constructor
  · rintro ⟨k, hk, h1, _⟩
    rw [h.uses, Bool.or_eq_true] at h1
    rcases h1 with h1 | h1
    · exact .inl ⟨k, hk, h1, rfl⟩
    · rw [Bool.and_eq_true, Bool.and_eq_true] at h1
      exact .inr (by rw [h1.1.2, h1.2]; rfl)
  · rintro (⟨k, hk, h1, _⟩ | h1)
    · exact ⟨k, hk, by rw [h.uses, h1]; rfl, rfl⟩
    · rw [Bool.and_eq_true] at h1
      exact ⟨k0, h.lt, by rw [h.uses]; simp [h1.1, h1.2], rfl⟩
theorem sum_list {S : Nat} (f : Int → Int) : ∀ {l : List Int}, l.Nodup → (∀ x, x ∈ l → 0 ≤ x ∧ x < (S : Int)) → (l.map f).sum = ((List.range S).map fun s : Nat => if l.contains (s : Int) then f s else 0).sum
  | [], _, _ => by
    rw [sum_zero' _ (List.range S) fun x _ => by simp]; rfl
  | a :: l, hn, hb => by
    obtain ⟨ha, hn2⟩ := List.nodup_cons.1 hn
    obtain ⟨h1, h2⟩ := hb a (by simp)
    obtain ⟨n, rfl⟩ : ∃ n : Nat, a = n := ⟨a.toNat, by omega⟩
    have ih := sum_list (S := S) f hn2 fun x hx => hb x (by simp [hx])
    rw [List.map_cons, List.sum_cons, ih]
    have hc : l.contains (n : Int) = false := by rw [← Bool.not_eq_true, List.contains_iff_mem]; exact ha
    have h3 := sum_upd (fun s : Nat => if l.contains (s : Int) then f (s : Int) else 0) (fun s : Nat => if ((n : Int) :: l).contains (s : Int) then f (s : Int) else 0) (a := n) (by simp only [hc]; rfl) (l := List.range S) List.nodup_range (List.mem_range.2 (by omega)) (fun x _ hne => by
      have : ((x : Int) == (n : Int)) = false := by rw [beq_eq_false_iff_ne]; omega
      simp only [List.contains_cons, this, Bool.false_or])
    have h4 : (fun s : Nat => if ((n : Int) :: l).contains (s : Int) then f (s : Int) else 0) n = f (n : Int) := by simp
    exact (Int.add_comm _ _).trans (h3.trans (congrArg _ h4)).symm
/-- what one hour more costs: the shafts of the line that do not run yet -/
theorem Used.extra {m m' : PM} {k0 h0 : Nat} (h : Used m m' k0 h0) (hm : POk m) (hh : h0 < 24) :
    costF m' (fun _ => true) - costF m (fun _ => true) = ((m.line (m.wv k0).shaft).map fun x => if runsB m x.toNat h0 then 0 else (m.sh x.toNat).price).sum := by
  have hk := hm.at_ k0 h.lt
  obtain ⟨n, hn⟩ : ∃ n : Nat, (m.wv k0).shaft = n := ⟨(m.wv k0).shaft.toNat, by omega⟩
  have hn' : n < m.shafts.length := by omega
  have hnd : (m.line (m.wv k0).shaft).Nodup := by
    rw [hn]
    exact List.nodup_iff_pairwise_ne.2 ((line_down m hm.up n hn').imp fun h => by omega)
  rw [sum_list (S := m.shafts.length) _ hnd fun x hx => by rw [hn] at hx; have := line_mem m hm.up n hn' x hx; omega]
  rw [costF_sumM, costF_sumM]
  have e1 : ∀ mm : PM, mm.shafts = m.shafts → ∀ mk, sumM mm mk = sumM m mk := fun mm e mk => by
    unfold sumM PM.sh
    rw [e]
  rw [e1 m' h.shafts]
  show sumM m (runsB m') - sumM m (runsB m) = _
  unfold sumM
  rw [sum_flat, sum_flat]
  have key : ∀ l : List Nat, (l.map fun s => ((List.range 24).map fun t => if runsB m' s t then (m.sh s).price else 0).sum).sum - (l.map fun s => ((List.range 24).map fun t => if runsB m s t then (m.sh s).price else 0).sum).sum =
      (l.map fun s : Nat => if (m.line (m.wv k0).shaft).contains (s : Int) then (if runsB m s h0 then 0 else (m.sh s).price) else 0).sum := by
    intro l
    induction l with
    | nil => rfl
    | cons s l ih =>
      simp only [List.map_cons, List.sum_cons]
      have e : ((List.range 24).map fun t => if runsB m' s t then (m.sh s).price else 0).sum = ((List.range 24).map fun t => if runsB m s t then (m.sh s).price else 0).sum + (if (m.line (m.wv k0).shaft).contains (s : Int) then (if runsB m s h0 then 0 else (m.sh s).price) else 0) := by
        cases hd : (m.line (m.wv k0).shaft).contains (s : Int) with
        | false =>
          rw [if_neg (by simp), Int.add_zero]
          refine sum_eq _ _ _ fun t _ => ?_
          rw [h.runs]
          have : m.drv s k0 = false := hd
          rw [this]; simp
        | true =>
          have hd' : m.drv s k0 = true := hd
          rw [if_pos rfl]
          cases hr : runsB m s h0 with
          | true =>
            rw [if_pos rfl, Int.add_zero]
            refine sum_eq _ _ _ fun t _ => ?_
            rw [h.runs, hd']
            by_cases e : t = h0
            · subst e; rw [hr]; rfl
            · simp [e]
          | false =>
            rw [if_neg (by simp)]
            rw [sum_upd (fun t => if runsB m s t then (m.sh s).price else 0) (fun t => if runsB m' s t then (m.sh s).price else 0) (a := h0) (by simp [hr]) List.nodup_range (List.mem_range.2 hh) ?_]
            · have : runsB m' s h0 = true := by rw [h.runs, hd']; simp
              rw [if_pos this]
            · intro t _ hne
              rw [h.runs]
              simp [hne]
      rw [e]
      omega
  rw [key]
  refine sum_eq _ _ _ fun s _ => ?_
  rw [Int.toNat_natCast]
/-! One loom less that is seen. -/
theorem expl_less {m : PM} {s s' : Nat → Int} (h : ∀ k, s' k = s k ∨ s' k = 0) {l : List Nat} (he : explB m s l = true) : explB m s' l = true := by
  unfold explB at he ⊢
  rw [List.all_eq_true] at he ⊢
  intro k hk
  have := he k hk
  rcases h k with e | e
  · rw [e]; exact this
  · rw [e]; simp
theorem seen_less {m : PM} (hm : POk m) {s s' : Nat → Int} (h : ∀ k, s' k = s k ∨ s' k = 0) (hc : clashB m s = false) :
    clashB m s' = false ∧ (∀ a b, firstF m.shafts.length (explB m s') = some a → firstF m.shafts.length (explB m s) = some b → a.length ≤ b.length) ∧ ∀ x, x ∈ sureL m s' → x ∈ sureL m s := by
  have hc' : clashB m s' = false := by
    rw [← Bool.not_eq_true]
    intro h1
    have h2 := (slipped_none hm.up hm.at_).2 h1
    cases hf : firstF m.shafts.length (explB m s) with
    | none => rw [(slipped_none hm.up hm.at_).1 hf] at hc; cases hc
    | some b =>
      obtain ⟨g1, g2, _⟩ := firstF_some.1 hf
      have := firstF_none.1 h2 b g2
      rw [expl_less h g1] at this
      cases this
  refine ⟨hc', fun a b ha hb => ?_, fun x hx => ?_⟩
  · obtain ⟨_, _, g3⟩ := firstF_some.1 ha
    obtain ⟨k1, k2, _⟩ := firstF_some.1 hb
    have := g3 b k2 (expl_less h k1)
    unfold before at this
    by_cases e : b.length = a.length
    · omega
    · rw [if_neg e, decide_eq_false_iff_not] at this; omega
  · obtain ⟨i, k, rfl, hk, h2, ho⟩ := (mem_sureL hm.up hm.at_).1 hx
    have h3 := (sure_iff hm.up hm.at_ hc').2 ⟨k, hk, h2, ho⟩
    obtain ⟨k', hk', h2', ho'⟩ := (sure_iff hm.up hm.at_ hc (i := i)).1 fun l hl he => h3 l hl (expl_less h he)
    exact (mem_sureL hm.up hm.at_).2 ⟨i, k', rfl, hk', h2', ho'⟩
/-- belts that really slipped -/
theorem found_law {m : PM} (hm : POk m) {s : Nat → Int} {real : List Nat} (hr : Up m.shafts.length 0 real) (he : explB m s real = true) :
    clashB m s = false ∧ (∀ few, firstF m.shafts.length (explB m s) = some few → few.length ≤ real.length ∧ (∀ i, i ∈ few → clrB m s i = false) ∧ ∀ i : Nat, (i : Int) ∈ sureL m s → i ∈ few) ∧
      (∀ i : Nat, (i : Int) ∈ sureL m s → i ∈ real) ∧ ∀ i, i ∈ real → clrB m s i = false := by
  have hc : clashB m s = false := by
    rw [← Bool.not_eq_true]
    intro h1
    have := firstF_none.1 ((slipped_none hm.up hm.at_).2 h1) real hr
    rw [he] at this; cases this
  have hsure : ∀ i : Nat, (i : Int) ∈ sureL m s → ∀ l, Up m.shafts.length 0 l → explB m s l = true → i ∈ l := fun i hi => by
    obtain ⟨j, k, e, hk, h2, ho⟩ := (mem_sureL hm.up hm.at_).1 hi
    have : i = j := by omega
    subst this
    exact (sure_iff hm.up hm.at_ hc).2 ⟨k, hk, h2, ho⟩
  refine ⟨hc, fun few hf => ?_, fun i hi => hsure i hi real hr he, (explB_iff.1 he).1⟩
  obtain ⟨g1, g2, g3⟩ := firstF_some.1 hf
  refine ⟨?_, (explB_iff.1 g1).1, fun i hi => hsure i hi few g2 g1⟩
  have := g3 real hr he
  unfold before at this
  by_cases e : real.length = few.length
  · omega
  · rw [if_neg e, decide_eq_false_iff_not] at this; omega
/-! What weavers add in an order of coming. -/
def befB (l : List Nat) (i : Nat) (k : Nat) : Bool := (l.take i).contains k
/-- what the one at place i adds -/
def addF (m : PM) (l : List Nat) (i : Nat) : Int := costF m (befB l (i + 1)) - costF m (befB l i)
theorem add_sum (m : PM) (l : List Nat) : ∀ i, ((List.range i).map (addF m l)).sum = costF m (befB l i) - costF m (befB l 0)
  | 0 => by simp
  | i + 1 => by
    rw [List.range_succ, List.map_append, List.sum_append, add_sum m l i]
    simp only [List.map_cons, List.map_nil, List.sum_cons, List.sum_nil, addF]
    omega
theorem cost_none (m : PM) (l : List Nat) : costF m (befB l 0) = 0 := by
  unfold costF costQ
  refine sum_zero' _ _ fun x _ => ?_
  rw [hitQ_false.2 fun k _ _ => by simp [befB]]
  simp
/-- what weavers add comes to the whole cost -/
theorem add_total {m : PM} {l : List Nat} (hl : ∀ k, k < m.wvs.length → k ∈ l) : ((List.range l.length).map (addF m l)).sum = costF m (fun _ => true) := by
  rw [add_sum, cost_none, Int.sub_zero]
  refine costQ_congr fun k hk => ?_
  unfold befB
  rw [List.take_length, List.contains_iff_mem.2 (hl k hk)]
theorem add_at {m : PM} {l : List Nat} {i : Nat} (hi : i < l.length) : addF m l i = costF m (fun k => befB l i k || decide (k = l[i])) - costF m (befB l i) := by
  unfold addF
  congr 1
  refine costQ_congr fun k _ => ?_
  unfold befB
  rw [List.take_succ_eq_append_getElem hi, Bool.eq_iff_iff, Bool.or_eq_true, List.contains_iff_mem, List.contains_iff_mem, decide_eq_true_eq, List.mem_append, List.mem_singleton]
/-- whoever comes behind more adds no more -/
theorem add_le {m : PM} (hm : POk m) {l r : List Nat} {i j : Nat} (hi : i < l.length) (hj : j < r.length) (e : l[i] = r[j]) (hlt : l[i] < m.wvs.length) (h : ∀ k, k ∈ l.take i → k ∈ r.take j) : addF m r j ≤ addF m l i := by
  rw [add_at hi, add_at hj, ← e]
  exact add_later hm.spots (fun k _ hk => List.contains_iff_mem.2 (h k (List.contains_iff_mem.1 hk))) hlt
theorem addF_nonneg {m : PM} (hm : POk m) {l : List Nat} {i : Nat} (hi : i < l.length) (hlt : l[i] < m.wvs.length) : 0 ≤ addF m l i := by
  rw [add_at hi]
  exact add_nonneg hm.spots hlt
end Go.Proofs.Pow

namespace Go.Proofs.Pow

/-- all orders of the numbers below n, by insertion -/
def permsF : Nat → List (List Nat)
  | 0 => [[]]
  | k + 1 => (permsF k).flatMap fun l => (List.range (l.length + 1)).map fun a => l.take a ++ k :: l.drop a
theorem perm_ins {l : List Nat} {k a : Nat} : (l.take a ++ k :: l.drop a).Perm (k :: l) := by
  refine List.perm_middle.trans ?_
  rw [List.take_append_drop]
theorem permsF_perm : ∀ n l, l ∈ permsF n → l.Perm (List.range n)
  | 0, l, h => by
    unfold permsF at h
    rw [List.mem_singleton] at h
    subst h; exact List.Perm.refl _
  | k + 1, l, h => by
    unfold permsF at h
    obtain ⟨r, h1, h2⟩ := List.mem_flatMap.1 h
    obtain ⟨a, _, rfl⟩ := List.mem_map.1 h2
    refine perm_ins.trans ?_
    rw [List.range_succ]
    exact ((permsF_perm k r h1).cons k).trans (List.perm_append_singleton k _).symm
theorem mem_permsF : ∀ n l, l ∈ permsF n ↔ l.Perm (List.range n)
  | 0, l => by
    unfold permsF
    rw [List.mem_singleton, List.range_zero, List.perm_nil]
  | k + 1, l => by
    refine ⟨permsF_perm _ l, fun h => ?_⟩
    have hk : k ∈ l := h.mem_iff.2 (List.mem_range.2 (Nat.lt_succ_self k))
    obtain ⟨pre, post, rfl⟩ := List.append_of_mem hk
    have h1 : (pre ++ post).Perm (List.range k) := by
      have h2 := List.perm_middle.symm.trans h
      rw [List.range_succ] at h2
      exact (List.perm_cons k).1 (h2.trans (List.perm_append_singleton k _))
    unfold permsF
    refine List.mem_flatMap.2 ⟨pre ++ post, (mem_permsF k _).2 h1, List.mem_map.2 ⟨pre.length, List.mem_range.2 (by rw [List.length_append]; omega), ?_⟩⟩
    rw [List.take_left, List.drop_left]
theorem ins_inj {l : List Nat} {k a b : Nat} (hk : k ∉ l) (ha : a ≤ l.length) (hb : b ≤ l.length) (h : l.take a ++ k :: l.drop a = l.take b ++ k :: l.drop b) : a = b := by
  have key : ∀ a b, a ≤ l.length → b ≤ l.length → l.take a ++ k :: l.drop a = l.take b ++ k :: l.drop b → ¬ a < b := fun a b ha hb h hlt => by
    have e : (l.take a ++ k :: l.drop a)[a]? = (l.take b ++ k :: l.drop b)[a]? := by rw [h]
    have l1 : (l.take a).length = a := by rw [List.length_take]; omega
    have l2 : (l.take b).length = b := by rw [List.length_take]; omega
    rw [List.getElem?_append_right (by omega), l1, Nat.sub_self, List.getElem?_cons_zero, List.getElem?_append_left (by omega), List.getElem?_take, if_pos hlt] at e
    exact hk (List.mem_of_getElem? e.symm)
  have h1 := key a b ha hb h
  have h2 := key b a hb ha h.symm
  omega
theorem ins_back {l : List Nat} {k a : Nat} (hk : k ∉ l) : (l.take a ++ k :: l.drop a).filter (fun x => decide (x ≠ k)) = l := by
  rw [List.filter_append, List.filter_cons_of_neg (by simp), ← List.filter_append, List.take_append_drop, List.filter_eq_self]
  intro x hx
  rw [decide_eq_true_eq]
  exact fun e => hk (e ▸ hx)
theorem permsF_nodup : ∀ n, (permsF n).Nodup
  | 0 => by simp [permsF]
  | k + 1 => by
    have hnot : ∀ l, l ∈ permsF k → k ∉ l := fun l hl hk => by
      have := List.mem_range.1 ((permsF_perm k l hl).mem_iff.1 hk)
      omega
    unfold permsF
    rw [List.nodup_iff_pairwise_ne, List.pairwise_flatMap]
    refine ⟨fun l hl => ?_, ?_⟩
    · rw [List.pairwise_map]
      refine (List.nodup_iff_pairwise_ne.1 List.nodup_range).imp_of_mem fun {a b} ha hb hne e => hne ?_
      have := List.mem_range.1 ha; have := List.mem_range.1 hb
      exact ins_inj (hnot l hl) (by omega) (by omega) e
    · refine (List.nodup_iff_pairwise_ne.1 (permsF_nodup k)).imp_of_mem fun {l r} hl hr hne x hx y hy e => hne ?_
      obtain ⟨a, _, rfl⟩ := List.mem_map.1 hx
      obtain ⟨b, _, rfl⟩ := List.mem_map.1 hy
      have := congrArg (List.filter fun x => decide (x ≠ k)) e
      rwa [ins_back (hnot l hl), ins_back (hnot r hr)] at this
/-- all orders that go on behind a set -/
def ordsR (n : Nat) : Nat → Nat → List (List Nat)
  | 0, _ => [[]]
  | r + 1, s => (lack n s).flatMap fun k => (ordsR n r (s + 2 ^ k)).map (k :: ·)
theorem mem_ordsR (n : Nat) : ∀ r s, (lack n s).length = r → ∀ l, l ∈ ordsR n r s ↔ l.Perm (lack n s)
  | 0, s, h, l => by
    unfold ordsR
    rw [List.mem_singleton, List.length_eq_zero_iff.1 h, List.perm_nil]
  | r + 1, s, h, l => by
    unfold ordsR
    rw [List.mem_flatMap]
    have hl : ∀ k, k ∈ lack n s → (k :: lack n (s + 2 ^ k)).Perm (lack n s) := fun k hk => by
      refine (List.perm_ext_iff_of_nodup (List.nodup_cons.2 ⟨fun h1 => ?_, lack_nodup _ _⟩) (lack_nodup _ _)).2 fun x => ?_
      · rw [lack_plus (mem_lack.1 hk).2, List.mem_filter] at h1
        simp at h1
      · rw [List.mem_cons, lack_plus (mem_lack.1 hk).2, List.mem_filter]
        by_cases e : x = k
        · subst e; simp [hk]
        · simp [e]
    constructor
    · rintro ⟨k, hk, h1⟩
      obtain ⟨t, ht, rfl⟩ := List.mem_map.1 h1
      have := (mem_ordsR n r (s + 2 ^ k) (by have := lack_len hk; omega) t).1 ht
      exact (this.cons k).trans (hl k hk)
    · intro hp
      cases l with
      | nil => have := hp.length_eq; rw [h] at this; simp at this
      | cons k t =>
        have hk : k ∈ lack n s := hp.mem_iff.1 (by simp)
        refine ⟨k, hk, List.mem_map.2 ⟨t, (mem_ordsR n r (s + 2 ^ k) (by have := lack_len hk; omega) t).2 ?_, rfl⟩⟩
        exact (List.perm_cons k).1 (hp.trans (hl k hk).symm)
theorem ordsR_nodup (n : Nat) : ∀ r s, (ordsR n r s).Nodup
  | 0, _ => by simp [ordsR]
  | r + 1, s => by
    unfold ordsR
    rw [List.nodup_iff_pairwise_ne, List.pairwise_flatMap]
    refine ⟨fun k _ => ?_, ?_⟩
    · rw [List.pairwise_map]
      exact (List.nodup_iff_pairwise_ne.1 (ordsR_nodup n r _)).imp fun h e => h (by cases e; rfl)
    · refine (List.nodup_iff_pairwise_ne.1 (lack_nodup n s)).imp fun hne x hx y hy e => hne ?_
      obtain ⟨a, _, rfl⟩ := List.mem_map.1 hx
      obtain ⟨b, _, rfl⟩ := List.mem_map.1 hy
      cases e; rfl
theorem lack_zero (n : Nat) : lack n 0 = List.range n := by
  unfold lack
  rw [List.filter_eq_self]
  intro k _; simp
theorem perms_ords (n : Nat) : (permsF n).Perm (ordsR n n 0) := by
  refine (List.perm_ext_iff_of_nodup (permsF_nodup n) (ordsR_nodup n n 0)).2 fun l => ?_
  rw [mem_permsF, mem_ordsR n n 0 (by rw [lack_zero, List.length_range]), lack_zero]
theorem ordsR_len (n : Nat) : ∀ r s, (ordsR n r s).length = addN n r s
  | 0, _ => rfl
  | r + 1, s => by
    unfold ordsR addN
    rw [List.length_flatMap]
    congr 1
    refine List.map_congr_left fun k _ => ?_
    rw [List.length_map, ordsR_len n r]
/-- what i adds in an order, behind a set -/
def addIn (c : Nat → Int) (i : Nat) : Nat → List Nat → Int
  | _, [] => 0
  | s, x :: r => (if x = i then c (s + 2 ^ x) - c s else 0) + addIn c i (s + 2 ^ x) r
theorem sum_flatMap {α β : Type} (f : β → Int) (g : α → List β) : ∀ l : List α, ((l.flatMap g).map f).sum = (l.map fun a => ((g a).map f).sum).sum
  | [] => rfl
  | a :: l => by rw [List.flatMap_cons, List.map_append, List.sum_append, sum_flatMap f g l]; rfl
theorem sum_same {α : Type} (c : Int) : ∀ l : List α, (l.map fun _ => c).sum = (l.length : Int) * c
  | [] => by simp
  | a :: l => by rw [List.map_cons, List.sum_cons, sum_same c l, List.length_cons, Int.natCast_add, Int.add_mul]; simp [Int.add_comm]
theorem sum_ords (n : Nat) (c : Nat → Int) (i : Nat) : ∀ r s, ((ordsR n r s).map (addIn c i s)).sum = addS n c i r s
  | 0, s => by simp [ordsR, addIn, addS]
  | r + 1, s => by
    unfold ordsR addS
    rw [sum_flatMap]
    refine sum_eq _ _ _ fun k _ => ?_
    rw [List.map_map]
    have e : ((ordsR n r (s + 2 ^ k)).map (addIn c i s ∘ (k :: ·))).sum = ((ordsR n r (s + 2 ^ k)).map fun l => addIn c i (s + 2 ^ k) l + if k = i then c (s + 2 ^ k) - c s else 0).sum := by
      refine sum_eq _ _ _ fun l _ => ?_
      simp only [Function.comp_apply, addIn]
      omega
    rw [e, sum_add, sum_ords n c i r, sum_same, ordsR_len]
    split <;> simp
theorem sum_perm {α : Type} (f : α → Int) {l r : List α} (h : l.Perm r) : (l.map f).sum = (r.map f).sum := by
  induction h with
  | nil => rfl
  | cons x _ ih => simp only [List.map_cons, List.sum_cons, ih]
  | swap x y l => simp only [List.map_cons, List.sum_cons]; omega
  | trans _ _ h1 h2 => exact h1.trans h2
/-- what i adds in all orders of coming -/
theorem sum_perms (n : Nat) (c : Nat → Int) (i : Nat) : ((permsF n).map (addIn c i 0)).sum = addS n c i n 0 := by
  rw [sum_perm _ (perms_ords n), sum_ords]
theorem perms_len (n : Nat) : (permsF n).length = fac n := by
  rw [(perms_ords n).length_eq, ordsR_len, addN_fac n n 0 (by rw [lack_zero, List.length_range])]
/-- the share is 60 times what a weaver adds on the average over all orders of coming -/
theorem POk.average {m : PM} (h : POk m) {i : Nat} (hi : i < m.wvs.length) : 60 * ((permsF m.wvs.length).map (addIn (costH m.wvs.length (Pow.spots m)) i 0)).sum = shareP m i * ((permsF m.wvs.length).length : Int) := by
  rw [sum_perms, perms_len]
  exact share_law h.few hi _
/-- the set of those that have come -/
def maskL (s : Nat) (l : List Nat) : Nat := l.foldl (fun s x => s + 2 ^ x) s
theorem maskL_bit : ∀ (l : List Nat) (s : Nat), l.Nodup → (∀ x, x ∈ l → s.testBit x = false) → ∀ k, (maskL s l).testBit k = (s.testBit k || l.contains k)
  | [], s, _, _, k => by simp [maskL]
  | x :: l, s, hn, h, k => by
    obtain ⟨h1, h2⟩ := List.nodup_cons.1 hn
    have hx := h x (by simp)
    show (maskL (s + 2 ^ x) l).testBit k = _
    rw [maskL_bit l (s + 2 ^ x) h2 fun y hy => by
      rw [testBit_plus hx, h y (by simp [hy])]
      simp only [Bool.false_or, decide_eq_false_iff_not]
      exact fun e => h1 (e ▸ hy)]
    rw [testBit_plus hx, List.contains_cons]
    have : (k == x) = decide (k = x) := rfl
    rw [this, Bool.or_assoc]
theorem addIn_out (c : Nat → Int) {i : Nat} : ∀ (l : List Nat) (s : Nat), i ∉ l → addIn c i s l = 0
  | [], _, _ => rfl
  | x :: l, s, h => by
    rw [List.mem_cons, not_or] at h
    unfold addIn
    rw [if_neg (fun e => h.1 e.symm), addIn_out c l _ h.2]; rfl
theorem addIn_at (c : Nat → Int) : ∀ (l : List Nat) (s j : Nat) (hj : j < l.length), l.Nodup → addIn c l[j] s l = c (maskL s (l.take (j + 1))) - c (maskL s (l.take j))
  | x :: l, s, 0, _, hn => by
    obtain ⟨h1, _⟩ := List.nodup_cons.1 hn
    show addIn c x s (x :: l) = _
    unfold addIn
    rw [if_pos rfl, addIn_out c l _ h1]
    simp [maskL]
  | x :: l, s, j + 1, hj, hn => by
    obtain ⟨h1, h2⟩ := List.nodup_cons.1 hn
    have hj' : j < l.length := by simpa using hj
    show addIn c l[j] s (x :: l) = _
    unfold addIn
    rw [if_neg (fun (e : x = l[j]) => h1 (by rw [e]; exact List.getElem_mem hj')), addIn_at c l _ j hj' h2]
    simp [maskL]
theorem addF_addIn {m : PM} {l : List Nat} (hn : l.Nodup) {j : Nat} (hj : j < l.length) : addF m l j = addIn (costH m.wvs.length (spots m)) l[j] 0 l := by
  have key : ∀ t, costF m (befB l t) = costH m.wvs.length (spots m) (maskL 0 (l.take t)) := fun t => by
    rw [costH_costQ]
    refine costQ_congr fun k _ => ?_
    have h1 : (l.take t).Nodup := (List.nodup_iff_pairwise_ne.1 hn).sublist (List.take_sublist t l) |> List.nodup_iff_pairwise_ne.2
    rw [maskL_bit _ 0 h1 (fun x _ => Nat.zero_testBit x)]
    simp [befB]
  rw [addIn_at _ l 0 j hj hn]
  unfold addF
  rw [key, key]
end Go.Proofs.Pow

namespace Go.Proofs.Pow

theorem sorted_ext : ∀ {l r : List Nat}, l.Pairwise (· < ·) → r.Pairwise (· < ·) → (∀ x, x ∈ l ↔ x ∈ r) → l = r
  | [], [], _, _, _ => rfl
  | [], b :: r, _, _, h => absurd ((h b).2 (by simp)) (by simp)
  | a :: l, [], _, _, h => absurd ((h a).1 (by simp)) (by simp)
  | a :: l, b :: r, h1, h2, h => by
    obtain ⟨g1, g2⟩ := List.pairwise_cons.1 h1
    obtain ⟨k1, k2⟩ := List.pairwise_cons.1 h2
    have hab : a = b := by
      have e1 := (h a).1 (by simp)
      have e2 := (h b).2 (by simp)
      rcases List.mem_cons.1 e1 with e1 | e1
      · exact e1
      · rcases List.mem_cons.1 e2 with e2 | e2
        · exact e2.symm
        · have := k1 a e1; have := g1 b e2; omega
    subst hab
    rw [sorted_ext g2 k2 fun x => ?_]
    constructor
    · intro hx
      have := (h x).1 (by simp [hx])
      rcases List.mem_cons.1 this with e | e
      · have := g1 x hx; omega
      · exact e
    · intro hx
      have := (h x).2 (by simp [hx])
      rcases List.mem_cons.1 this with e | e
      · have := k1 x hx; omega
      · exact e
/-- the numbers that the bits of a number say -/
def bitsL (n s : Nat) : List Nat := (List.range n).filter fun k => s.testBit k
theorem mem_bitsL {n s k : Nat} : k ∈ bitsL n s ↔ k < n ∧ s.testBit k = true := by
  unfold bitsL; rw [List.mem_filter, List.mem_range]
theorem bitsL_up (n s : Nat) : Up n 0 (bitsL n s) := ⟨List.pairwise_lt_range.filter _, fun _x hx => ⟨Nat.zero_le _, (mem_bitsL.1 hx).1⟩⟩
theorem up_nodup {n a : Nat} {l : List Nat} (h : Up n a l) : l.Nodup := List.nodup_iff_pairwise_ne.2 (h.1.imp fun h => by omega)
theorem up_bits {n : Nat} {l : List Nat} (h : Up n 0 l) : ∃ s, s < 2 ^ n ∧ bitsL n s = l := by
  have hb := maskL_bit l 0 (up_nodup h) fun x _ => Nat.zero_testBit x
  refine ⟨maskL 0 l, ?_, sorted_ext (bitsL_up n _).1 h.1 fun x => ?_⟩
  · refine Nat.lt_pow_two_of_testBit _ fun i hi => ?_
    rw [hb, Nat.zero_testBit, Bool.false_or, ← Bool.not_eq_true, List.contains_iff_mem]
    intro hx
    have := (h.2 i hx).2
    omega
  · rw [mem_bitsL, hb, Nat.zero_testBit, Bool.false_or, List.contains_iff_mem]
    exact ⟨fun g => g.2, fun g => ⟨(h.2 x g).2, g⟩⟩
/-- the first one, found by trying all sets below s -/
def pickF (n : Nat) (p : List Nat → Bool) : Nat → Option (List Nat)
  | 0 => none
  | s + 1 => if p (bitsL n s) && (match pickF n p s with | none => true | some x => before (bitsL n s) x) then some (bitsL n s) else pickF n p s
theorem pickF_none {n : Nat} {p : List Nat → Bool} : ∀ {s : Nat}, pickF n p s = none ↔ ∀ t, t < s → p (bitsL n t) = false
  | 0 => by simp [pickF]
  | s + 1 => by
    unfold pickF
    constructor
    · intro h
      cases hp : pickF n p s with
      | none =>
        rw [hp] at h
        have h1 := pickF_none.1 hp
        intro t ht
        rcases Nat.lt_or_eq_of_le (Nat.le_of_lt_succ ht) with e | e
        · exact h1 t e
        · subst e
          cases hq : p (bitsL n t) with
          | false => rfl
          | true => rw [hq] at h; simp at h
      | some x =>
        rw [hp] at h
        cases hq : p (bitsL n s) && before (bitsL n s) x with
        | true => simp only [hq, if_pos] at h; cases h
        | false => simp only [hq, Bool.false_eq_true, if_false] at h; cases h
    · intro h
      have h1 : pickF n p s = none := pickF_none.2 fun t ht => h t (by omega)
      rw [h1, h s (by omega)]; rfl
theorem ahead_trans : ∀ {a b c : List Nat}, ahead a b = true → ahead b c = true → ahead a c = true
  | [], b, [], _, h2 => by cases b <;> simp [ahead] at h2
  | [], _, _ :: _, _, _ => rfl
  | a :: x, [], _, h1, _ => by simp [ahead] at h1
  | a :: x, b :: y, [], _, h2 => by simp [ahead] at h2
  | a :: x, b :: y, c :: z, h1, h2 => by
    unfold ahead at h1 h2 ⊢
    by_cases e1 : a = b
    · subst e1
      rw [if_pos rfl] at h1
      by_cases e2 : a = c
      · subst e2
        rw [if_pos rfl] at h2 ⊢
        exact ahead_trans h1 h2
      · rw [if_neg e2] at h2 ⊢; exact h2
    · rw [if_neg e1, decide_eq_true_eq] at h1
      by_cases e2 : b = c
      · subst e2
        rw [if_neg e1]; exact decide_eq_true h1
      · rw [if_neg e2, decide_eq_true_eq] at h2
        rw [if_neg (by omega)]
        exact decide_eq_true (by omega)
theorem before_tr {a b c : List Nat} (h1 : before a b = true) (h2 : before b c = true) : before a c = true := by
  unfold before at h1 h2 ⊢
  by_cases e1 : a.length = b.length
  · rw [if_pos e1] at h1
    by_cases e2 : b.length = c.length
    · rw [if_pos e2] at h2
      rw [if_pos (by omega)]
      exact ahead_trans h1 h2
    · rw [if_neg e2, decide_eq_true_eq] at h2
      rw [if_neg (by omega)]
      exact decide_eq_true (by omega)
  · rw [if_neg e1, decide_eq_true_eq] at h1
    by_cases e2 : b.length = c.length
    · rw [if_neg (by omega)]
      exact decide_eq_true (by omega)
    · rw [if_neg e2, decide_eq_true_eq] at h2
      rw [if_neg (by omega)]
      exact decide_eq_true (by omega)
theorem pickF_some {n : Nat} {p : List Nat → Bool} : ∀ {s : Nat} {l : List Nat}, pickF n p s = some l → p l = true ∧ (∃ t, t < s ∧ bitsL n t = l) ∧ ∀ t, t < s → p (bitsL n t) = true → before (bitsL n t) l = false
  | s + 1, l, h => by
    unfold pickF at h
    cases hp : pickF n p s with
    | none =>
      rw [hp] at h
      have h1 := pickF_none.1 hp
      cases hq : p (bitsL n s) with
      | false => rw [hq] at h; simp at h
      | true =>
        rw [hq] at h
        simp only [Bool.and_self, if_pos, Option.some.injEq] at h
        subst h
        refine ⟨hq, ⟨s, by omega, rfl⟩, fun t ht g => ?_⟩
        rcases Nat.lt_or_eq_of_le (Nat.le_of_lt_succ ht) with e | e
        · rw [h1 t e] at g; cases g
        · subst e; exact before_irr _
    | some x =>
      obtain ⟨k1, ⟨t0, k2, k3⟩, k4⟩ := pickF_some hp
      rw [hp] at h
      cases hq : p (bitsL n s) && before (bitsL n s) x with
      | false =>
        simp only [hq] at h
        simp only [Bool.false_eq_true, if_false, Option.some.injEq] at h
        subst h
        refine ⟨k1, ⟨t0, by omega, k3⟩, fun t ht g => ?_⟩
        rcases Nat.lt_or_eq_of_le (Nat.le_of_lt_succ ht) with e | e
        · exact k4 t e g
        · subst e
          rw [g, Bool.true_and] at hq
          exact hq
      | true =>
        simp only [hq, if_pos, Option.some.injEq] at h
        subst h
        rw [Bool.and_eq_true] at hq
        refine ⟨hq.1, ⟨s, by omega, rfl⟩, fun t ht g => ?_⟩
        rcases Nat.lt_or_eq_of_le (Nat.le_of_lt_succ ht) with e | e
        · have := k4 t e g
          rw [← Bool.not_eq_true]
          intro h5
          rw [before_tr h5 hq.2] at this
          cases this
        · subst e; exact before_irr _
/-- both ways find the same -/
theorem pick_first (n : Nat) (p : List Nat → Bool) : pickF n p (2 ^ n) = firstF n p := by
  cases h : pickF n p (2 ^ n) with
  | none =>
    symm
    rw [firstF_none]
    intro x hx
    obtain ⟨s, hs, rfl⟩ := up_bits hx
    exact pickF_none.1 h s hs
  | some l =>
    obtain ⟨h1, ⟨t, _, rfl⟩, h3⟩ := pickF_some h
    symm
    rw [firstF_some]
    refine ⟨h1, bitsL_up n t, fun x hx hp => ?_⟩
    obtain ⟨s, hs, rfl⟩ := up_bits hx
    exact h3 s hs hp
/-- what is in all lists of a kind, found by trying all sets below s; none if there are none -/
def bothF (n : Nat) (p : List Nat → Bool) : Nat → Option (List Nat)
  | 0 => none
  | s + 1 => if p (bitsL n s) then some (match bothF n p s with | none => (bitsL n s).filter fun x => (bitsL n s).contains x | some b => b.filter fun x => (bitsL n s).contains x) else bothF n p s
theorem bothF_none {n : Nat} {p : List Nat → Bool} : ∀ {s : Nat}, bothF n p s = none ↔ ∀ t, t < s → p (bitsL n t) = false
  | 0 => by simp [bothF]
  | s + 1 => by
    unfold bothF
    constructor
    · intro h t ht
      cases hq : p (bitsL n s) with
      | true => rw [hq] at h; simp at h
      | false =>
        rw [hq] at h
        simp only [Bool.false_eq_true, if_false] at h
        rcases Nat.lt_or_eq_of_le (Nat.le_of_lt_succ ht) with e | e
        · exact bothF_none.1 h t e
        · subst e; exact hq
    · intro h
      rw [h s (by omega)]
      simp only [Bool.false_eq_true, if_false]
      exact bothF_none.2 fun t ht => h t (by omega)
theorem bothF_some {n : Nat} {p : List Nat → Bool} : ∀ {s : Nat} {b : List Nat}, bothF n p s = some b → b.Pairwise (· < ·) ∧ ∀ x, x ∈ b ↔ ∀ t, t < s → p (bitsL n t) = true → x ∈ bitsL n t
  | s + 1, b, h => by
    unfold bothF at h
    cases hq : p (bitsL n s) with
    | false =>
      rw [hq] at h
      simp only [Bool.false_eq_true, if_false] at h
      obtain ⟨h1, h2⟩ := bothF_some h
      refine ⟨h1, fun x => (h2 x).trans ⟨fun g t ht hp => ?_, fun g t ht hp => g t (by omega) hp⟩⟩
      rcases Nat.lt_or_eq_of_le (Nat.le_of_lt_succ ht) with e | e
      · exact g t e hp
      · subst e; rw [hq] at hp; cases hp
    | true =>
      rw [hq] at h
      simp only [if_pos, Option.some.injEq] at h
      cases hp : bothF n p s with
      | none =>
        rw [hp] at h
        have h1 := bothF_none.1 hp
        subst h
        refine ⟨(bitsL_up n s).1.filter _, fun x => ?_⟩
        simp only [List.mem_filter, List.contains_iff_mem, and_self]
        refine ⟨fun g t ht hpt => ?_, fun g => g s (by omega) hq⟩
        rcases Nat.lt_or_eq_of_le (Nat.le_of_lt_succ ht) with e | e
        · rw [h1 t e] at hpt; cases hpt
        · subst e; exact g
      | some c =>
        rw [hp] at h
        obtain ⟨h1, h2⟩ := bothF_some hp
        subst h
        refine ⟨h1.filter _, fun x => ?_⟩
        simp only [List.mem_filter, List.contains_iff_mem, h2]
        refine ⟨fun ⟨g1, g2⟩ t ht hpt => ?_, fun g => ⟨fun t ht hpt => g t (by omega) hpt, g s (by omega) hq⟩⟩
        rcases Nat.lt_or_eq_of_le (Nat.le_of_lt_succ ht) with e | e
        · exact g1 t e hpt
        · subst e; exact g2
end Go.Proofs.Pow

namespace Go.Proofs.Pow

def skip (k j : Nat) : Nat := if j < k then j else j + 1
/-- p has some of m's weavers: its j is m's f j -/
structure Some (p m : PM) (f : Nat → Nat) : Prop where
  shafts : p.shafts = m.shafts
  lt : ∀ j, j < p.wvs.length → f j < m.wvs.length
  same : ∀ j, j < p.wvs.length → p.wv j = m.wv (f j)
  inj : ∀ a b, a < p.wvs.length → b < p.wvs.length → f a = f b → a = b
theorem Some.uses {p m : PM} {f : Nat → Nat} (h : Some p m f) {s t j : Nat} (hj : j < p.wvs.length) : usesB p s t j = usesB m s t (f j) := by
  unfold usesB PM.drv
  rw [h.same j hj, line_shafts h.shafts]
theorem Some.cnt {p m : PM} {f : Nat → Nat} (h : Some p m f) (s t : Nat) : cntU p.wvs.length (usesB p s t) ≤ cntU m.wvs.length (usesB m s t) := by
  unfold cntU
  have := nodup_le (l := ((List.range p.wvs.length).filter (usesB p s t)).map f) (r := (List.range m.wvs.length).filter (usesB m s t)) (nodup_map (List.nodup_range.filter _) fun x y hx hy e => by
      rw [List.mem_filter, List.mem_range] at hx hy
      exact h.inj x y hx.1 hy.1 e) fun x hx => by
    obtain ⟨j, hj, rfl⟩ := List.mem_map.1 hx
    rw [List.mem_filter, List.mem_range] at hj
    rw [List.mem_filter, List.mem_range]
    exact ⟨h.lt j hj.1, by rw [← h.uses hj.1]; exact hj.2⟩
  simpa using this
/-- a weaver who comes never makes another one pay more -/
theorem Some.share {p m : PM} {f : Nat → Nat} (h : Some p m f) (hm : POk m) {j : Nat} (hj : j < p.wvs.length) : shareP m (f j) ≤ shareP p j := by
  unfold shareP shareH spots
  rw [List.map_map, List.map_map, h.shafts]
  refine sum_le _ _ _ ?_
  rintro ⟨s, t⟩ hx
  have hp := (hm.price s (mem_spotL.1 hx).1).1
  have e : (p.sh s).price = (m.sh s).price := by unfold PM.sh; rw [h.shafts]
  simp only [Function.comp_apply, h.uses hj, e]
  cases h1 : usesB m s t (f j) with
  | false => simp
  | true =>
    simp only [if_pos]
    have h2 := h.cnt s t
    have h3 := cntU_pos hj (by rw [h.uses hj]; exact h1 : usesB p s t j = true)
    have h4 := cntU_le m.wvs.length (usesB m s t)
    have := hm.few
    exact div_mono hp (by omega) (by omega) (by omega)
/-- what some of the weavers cost -/
theorem Some.cost {p m : PM} {f : Nat → Nat} (h : Some p m f) {q r : Nat → Bool} (hq : ∀ j, j < p.wvs.length → q j = r (f j)) (hr : ∀ k, k < m.wvs.length → r k = true → ∃ j, j < p.wvs.length ∧ f j = k) : costF p q = costF m r := by
  rw [costF_sumM, costF_sumM]
  have e1 : ∀ mk, sumM p mk = sumM m mk := fun mk => by unfold sumM PM.sh; rw [h.shafts]
  rw [e1]
  refine sumM_congr fun s t _ _ => ?_
  rw [Bool.eq_iff_iff, hitQ_iff, hitQ_iff]
  constructor
  · rintro ⟨j, hj, h1, h2⟩
    exact ⟨f j, h.lt j hj, by rw [← h.uses hj]; exact h1, by rw [← hq j hj]; exact h2⟩
  · rintro ⟨k, hk, h1, h2⟩
    obtain ⟨j, hj, rfl⟩ := hr k hk h2
    exact ⟨j, hj, by rw [h.uses hj]; exact h1, by rw [hq j hj]; exact h2⟩
def PM.drop (m : PM) (k : Nat) : PM := { m with wvs := m.wvs.eraseIdx k }
def PM.only (m : PM) (k : Nat) : PM := { m with wvs := [m.wv k] }
theorem drop_some {m : PM} {k : Nat} (hk : k < m.wvs.length) : (m.drop k).wvs.length = m.wvs.length - 1 ∧ Some (m.drop k) m (skip k) := by
  have hl : (m.drop k).wvs.length = m.wvs.length - 1 := by
    unfold PM.drop; rw [List.length_eraseIdx, if_pos hk]
  refine ⟨hl, rfl, fun j hj => ?_, fun j hj => ?_, fun a b ha hb e => ?_⟩
  · unfold skip; split <;> omega
  · unfold PM.wv PM.drop skip
    simp only [List.getElem?_eraseIdx]
    split <;> rfl
  · unfold skip at e
    split at e <;> split at e <;> omega
theorem only_some {m : PM} {k : Nat} (hk : k < m.wvs.length) : Some (m.only k) m fun _ => k := by
  refine ⟨rfl, fun _ _ => hk, fun j hj => ?_, fun a b ha hb _ => ?_⟩
  · have : j < 1 := hj
    obtain rfl : j = 0 := by omega
    rfl
  · have : a < 1 := ha
    have : b < 1 := hb
    omega
theorem Some.ok {p m : PM} {f : Nat → Nat} (h : Some p m f) (hm : POk m) (hf : p.wvs.length ≤ 6) : POk p := by
  refine ⟨by rw [h.shafts]; exact hm.sz, hf, fun s hs => ?_, fun k hk => ?_, fun s hs => ?_, fun k hk => ?_, fun k hk => ?_⟩
  · rw [h.shafts] at hs
    have e : p.sh s = m.sh s := by unfold PM.sh; rw [h.shafts]
    rw [e]; exact hm.price s hs
  · rw [h.same k hk]; exact hm.hour _ (h.lt k hk)
  · rw [h.shafts] at hs
    have e : p.sh s = m.sh s := by unfold PM.sh; rw [h.shafts]
    rw [e]; exact hm.up s hs
  · rw [h.same k hk, h.shafts]; exact hm.at_ _ (h.lt k hk)
  · rw [h.same k hk]; exact hm.rise _ (h.lt k hk)
/-- alone a weaver pays just the own cost -/
theorem only_share {m : PM} (hm : POk m) {k : Nat} (hk : k < m.wvs.length) : shareP (m.only k) 0 = 60 * costF m (fun i => decide (i = k)) := by
  have h1 := ((only_some hk).ok hm (by show 1 ≤ 6; omega)).total
  have h2 := (only_some hk).cost (q := fun _ => true) (r := fun i => decide (i = k)) (fun j _ => by simp) fun i _ hi => ⟨0, by show 0 < 1; omega, (of_decide_eq_true hi).symm⟩
  rw [h2] at h1
  rw [← h1]
  show _ = ((List.range 1).map (shareP (m.only k))).sum
  simp [List.range_succ]
end Go.Proofs.Pow

namespace Go.Proofs.Pow

/-- all groups of the numbers below n -/
def groupsF : Nat → List (List Nat)
  | 0 => [[]]
  | k + 1 => groupsF k ++ (groupsF k).map (· ++ [k])
theorem up_snoc {n : Nat} {l : List Nat} (h : Up n 0 l) : Up (n + 1) 0 (l ++ [n]) := by
  refine ⟨?_, fun x hx => ⟨Nat.zero_le _, ?_⟩⟩
  · rw [List.pairwise_append]
    exact ⟨h.1, List.pairwise_singleton _ _, fun a ha b hb => by rw [List.mem_singleton] at hb; subst hb; exact (h.2 a ha).2⟩
  · rcases List.mem_append.1 hx with h1 | h1
    · have := (h.2 x h1).2; omega
    · rw [List.mem_singleton] at h1; omega
theorem mem_groupsF : ∀ n l, l ∈ groupsF n ↔ Up n 0 l
  | 0, l => by
    unfold groupsF
    rw [List.mem_singleton]
    constructor
    · rintro rfl; exact ⟨List.Pairwise.nil, fun x h => by simp at h⟩
    · intro h
      cases l with
      | nil => rfl
      | cons a l => have := (h.2 a (by simp)).2; omega
  | k + 1, l => by
    unfold groupsF
    rw [List.mem_append, mem_groupsF k, List.mem_map]
    constructor
    · rintro (h | ⟨r, hr, rfl⟩)
      · exact ⟨h.1, fun x hx => ⟨Nat.zero_le _, by have := (h.2 x hx).2; omega⟩⟩
      · exact up_snoc ((mem_groupsF k r).1 hr)
    · intro h
      by_cases hk : k ∈ l
      · refine .inr ⟨l.filter fun x => decide (x ≠ k), ?_, ?_⟩
        · rw [mem_groupsF k]
          refine ⟨h.1.filter _, fun x hx => ⟨Nat.zero_le _, ?_⟩⟩
          rw [List.mem_filter, decide_eq_true_eq] at hx
          have := (h.2 x hx.1).2
          omega
        · refine sorted_ext ?_ h.1 fun x => ?_
          · have hu : Up k 0 (l.filter fun x => decide (x ≠ k)) := ⟨h.1.filter _, fun x hx => ⟨Nat.zero_le _, by
              rw [List.mem_filter, decide_eq_true_eq] at hx
              have := (h.2 x hx.1).2
              omega⟩⟩
            exact (up_snoc hu).1
          · rw [List.mem_append, List.mem_filter, decide_eq_true_eq, List.mem_singleton]
            by_cases e : x = k
            · subst e; simp [hk]
            · simp [e]
      · refine .inl ⟨h.1, fun x hx => ⟨Nat.zero_le _, ?_⟩⟩
        have := (h.2 x hx).2
        have : x ≠ k := fun e => hk (e ▸ hx)
        omega
/-- a group has more parts than sixty times its cost -/
def moreB (m : PM) (sh : List Int) (l : List Nat) : Bool := decide (60 * costF m (fun k => l.contains k) < (l.map fun k => sh[k]?.getD 0).sum)
def betterF (m : PM) (sh : List Int) : Option (List Nat) := firstF m.wvs.length (moreB m sh)
/-- no group is better off alone under the shares of the mill -/
theorem better_none {m : PM} (hm : POk m) {sh : List Int} (hs : ∀ k, k < m.wvs.length → sh[k]?.getD 0 = shareP m k) : betterF m sh = none := by
  unfold betterF
  rw [firstF_none]
  intro x hx
  unfold moreB
  rw [decide_eq_false_iff_not]
  have h1 := hm.group fun k => x.contains k
  have h2 : (List.range m.wvs.length).filter (fun k => x.contains k) = x := sorted_ext (List.pairwise_lt_range.filter _) hx.1 fun y => by
    rw [List.mem_filter, List.mem_range, List.contains_iff_mem]
    exact ⟨fun h => h.2, fun h => ⟨(hx.2 y h).2, h⟩⟩
  rw [h2] at h1
  have h3 : (x.map fun k => sh[k]?.getD 0).sum = (x.map (shareP m)).sum := sum_eq _ _ _ fun k hk => hs k (hx.2 k hk).2
  omega
/-- the group that is named, among all groups -/
theorem better_law {m : PM} {sh : List Int} : (∀ l, betterF m sh = some l → moreB m sh l = true ∧ l ∈ groupsF m.wvs.length) ∧
    ∀ g, g ∈ groupsF m.wvs.length → moreB m sh g = true → ∃ l, betterF m sh = some l ∧ before g l = false := by
  constructor
  · intro l h
    obtain ⟨h1, h2, _⟩ := firstF_some.1 h
    exact ⟨h1, (mem_groupsF _ _).2 h2⟩
  · intro g hg h
    have hu := (mem_groupsF _ _).1 hg
    cases hb : betterF m sh with
    | none => rw [firstF_none.1 hb g hu] at h; cases h
    | some l => exact ⟨l, rfl, (firstF_some.1 hb).2.2 g hu h⟩
end Go.Proofs.Pow

namespace Go.Proofs.Pow

/-- each shaft is driven by the one before it -/
def ChainOk (m : PM) : Prop := ∀ s, s < m.shafts.length → (m.sh s).up = (s : Int) - 1
theorem ChainOk.up {m : PM} (h : ChainOk m) : UpOk m := fun s hs => by rw [h s hs]; omega
theorem ChainOk.line {m : PM} (h : ChainOk m) : ∀ s : Nat, s < m.shafts.length → ∀ x : Int, x ∈ m.line s ↔ 0 ≤ x ∧ x ≤ s
  | 0, hs, x => by
    rw [line_cons m h.up hs, h 0 hs, line_neg m (by omega), List.mem_singleton]
    omega
  | s + 1, hs, x => by
    rw [line_cons m h.up hs, h (s + 1) hs]
    have e : ((s + 1 : Nat) : Int) - 1 = (s : Int) := by omega
    rw [e, List.mem_cons, ChainOk.line h s (by omega) x]
    omega
theorem ChainOk.drv {m : PM} (h : ChainOk m) (hm : AtOk m) {s k : Nat} (hk : k < m.wvs.length) : m.drv s k = decide ((s : Int) ≤ (m.wv k).shaft) := by
  obtain ⟨h1, h2⟩ := hm k hk
  obtain ⟨t, ht⟩ : ∃ t : Nat, (m.wv k).shaft = t := ⟨(m.wv k).shaft.toNat, by omega⟩
  rw [Bool.eq_iff_iff, drv_iff, ht, h.line t (by omega), decide_eq_true_eq]
  omega
/-- the most hours of the looms that a shaft drives -/
def mostF (m : PM) (s : Nat) : Nat := m.wvs.foldl (fun a w => if (s : Int) ≤ w.shaft then max a w.hours.length else a) 0
theorem most_fold (s : Nat) : ∀ (l : List Wv) (a h : Nat), h < l.foldl (fun a w => if (s : Int) ≤ w.shaft then max a w.hours.length else a) a ↔ h < a ∨ ∃ w, w ∈ l ∧ (s : Int) ≤ w.shaft ∧ h < w.hours.length
  | [], a, h => by simp
  | w :: l, a, h => by
    rw [List.foldl_cons, most_fold s l]
    constructor
    · rintro (h1 | ⟨v, hv, h1⟩)
      · split at h1
        · rcases Nat.lt_or_ge h a with e | e
          · exact .inl e
          · exact .inr ⟨w, by simp, by assumption, by omega⟩
        · exact .inl h1
      · exact .inr ⟨v, by simp [hv], h1⟩
    · rintro (h1 | ⟨v, hv, h1, h2⟩)
      · refine .inl ?_
        split <;> omega
      · rcases List.mem_cons.1 hv with rfl | hv
        · refine .inl ?_
          rw [if_pos h1]; omega
        · exact .inr ⟨v, hv, h1, h2⟩
theorem sum_below (p : Int) : ∀ (n c : Nat), c ≤ n → ((List.range n).map fun h => if h < c then p else 0).sum = (c : Int) * p
  | 0, c, h => by
    obtain rfl : c = 0 := by omega
    simp
  | n + 1, c, h => by
    rw [List.range_succ, List.map_append, List.sum_append]
    by_cases e : c = n + 1
    · subst e
      have : ((List.range n).map fun h => if h < n + 1 then p else 0).sum = ((List.range n).map fun h => if h < n then p else 0).sum := sum_eq _ _ _ fun x hx => by
        have := List.mem_range.1 hx
        rw [if_pos (by omega), if_pos this]
      rw [this, sum_below p n n (Nat.le_refl _)]
      simp only [List.map_cons, List.map_nil, List.sum_cons, List.sum_nil, if_pos (Nat.lt_succ_self n), Int.add_zero, Int.natCast_add, Int.add_mul]
      simp
    · rw [sum_below p n c (by omega)]
      simp only [List.map_cons, List.map_nil, List.sum_cons, List.sum_nil, if_neg (show ¬ n < c by omega), Int.add_zero]
/-- all pay together, for each shaft, the most hours of the looms that it drives -/
theorem woven_cost {m : PM} (h : ChainOk m) (ha : AtOk m) (hh : ∀ k, k < m.wvs.length → ∃ c : Nat, c ≤ 24 ∧ (m.wv k).hours = (List.range c).map fun i : Nat => (i : Int)) :
    costF m (fun _ => true) = ((List.range m.shafts.length).map fun s => (mostF m s : Int) * (m.sh s).price).sum := by
  have hwv : ∀ w, w ∈ m.wvs → ∃ k, k < m.wvs.length ∧ m.wv k = w := fun w hw => by
    obtain ⟨k, hk, rfl⟩ := List.mem_iff_getElem.1 hw
    exact ⟨k, hk, by unfold PM.wv; rw [List.getElem?_eq_getElem hk]; rfl⟩
  have hmem : ∀ k, k < m.wvs.length → m.wv k ∈ m.wvs := fun k hk => by unfold PM.wv; rw [List.getElem?_eq_getElem hk]; exact List.getElem_mem hk
  have hc : ∀ k, k < m.wvs.length → ∀ t : Nat, (m.wv k).hours.contains (t : Int) = decide (t < (m.wv k).hours.length) := fun k hk t => by
    obtain ⟨c, _, e⟩ := hh k hk
    rw [Bool.eq_iff_iff, List.contains_iff_mem, decide_eq_true_eq, e, List.length_map, List.length_range, List.mem_map]
    constructor
    · rintro ⟨i, hi, e2⟩
      have := List.mem_range.1 hi; omega
    · intro ht; exact ⟨t, List.mem_range.2 ht, rfl⟩
  have hr : ∀ s t, hitQ m.wvs.length (usesB m s t) (fun _ => true) = decide (t < mostF m s) := fun s t => by
    rw [Bool.eq_iff_iff, hitQ_iff, decide_eq_true_eq]
    unfold mostF
    rw [most_fold]
    constructor
    · rintro ⟨k, hk, h1, _⟩
      unfold usesB at h1
      rw [Bool.and_eq_true, h.drv ha hk, hc k hk, decide_eq_true_eq, decide_eq_true_eq] at h1
      exact .inr ⟨_, hmem k hk, h1⟩
    · rintro (h1 | ⟨w, hw, h1⟩)
      · omega
      · obtain ⟨k, hk, rfl⟩ := hwv w hw
        refine ⟨k, hk, ?_, rfl⟩
        unfold usesB
        rw [Bool.and_eq_true, h.drv ha hk, hc k hk, decide_eq_true_eq, decide_eq_true_eq]
        exact h1
  have hle : ∀ s, mostF m s ≤ 24 := fun s => by
    refine Nat.le_of_not_lt fun hlt => ?_
    unfold mostF at hlt
    rw [most_fold] at hlt
    rcases hlt with h1 | ⟨w, hw, _, h1⟩
    · omega
    · obtain ⟨k, hk, rfl⟩ := hwv w hw
      obtain ⟨c, h2, e⟩ := hh k hk
      rw [e, List.length_map, List.length_range] at h1
      omega
  rw [costF_sumM]
  unfold sumM
  rw [sum_flat]
  refine sum_eq _ _ _ fun s _ => ?_
  rw [← sum_below _ 24 _ (hle s)]
  refine sum_eq _ _ _ fun t _ => ?_
  simp only [hr, decide_eq_true_eq]
end Go.Proofs.Pow

namespace Go.Proofs.Pow

/-- group g (numbers): weaver k marks (s, h) -/
def usesI (m : PM) (s h : Nat) (k : Int) : Bool := (m.line (m.wv k.toNat).shaft).contains (s : Int) && (m.wv k.toNat).hours.contains (h : Int)
def mkG (m : PM) (g : List Int) (s h : Nat) : Bool := g.any (usesI m s h)
/-- within the round of k: the hours hs are done, in the hour cur the shafts ls -/
def mk3 (m : PM) (g : List Int) (k : Int) (hs : List Int) (cur : Int) (ls : List Int) (s h : Nat) : Bool :=
  mkG m g s h || (hs.contains (h : Int) && (m.line (m.wv k.toNat).shaft).contains (s : Int)) || (decide ((h : Int) = cur) && ls.contains (s : Int))
def InG (m : PM) (g : List Int) : Prop := ∀ k, k ∈ g → 0 ≤ k ∧ k < m.wvs.length
theorem usesI_nat (m : PM) (s h k : Nat) : usesI m s h (k : Int) = usesB m s h k := rfl
theorem mkG_hit {m : PM} {g : List Int} (hg : InG m g) (s h : Nat) : mkG m g s h = hitQ m.wvs.length (usesB m s h) fun k => g.contains (k : Int) := by
  rw [Bool.eq_iff_iff, hitQ_iff]
  unfold mkG
  rw [List.any_eq_true]
  constructor
  · rintro ⟨k, hk, hu⟩
    obtain ⟨h0, h1⟩ := hg k hk
    obtain ⟨n, rfl⟩ := Int.eq_ofNat_of_zero_le h0
    exact ⟨n, by omega, hu, List.contains_iff_mem.2 hk⟩
  · rintro ⟨k, hk, hu, hc⟩
    exact ⟨k, List.contains_iff_mem.1 hc, hu⟩
theorem cost_mkG {m : PM} {g : List Int} (hg : InG m g) : sumM m (mkG m g) = costF m fun k => g.contains (k : Int) := by
  rw [costF_sumM]
  exact sumM_congr fun s h _ _ => mkG_hit hg s h
theorem mkG_nil (m : PM) : mkG m [] = fun _ _ => false := rfl
theorem mkG_snoc (m : PM) (g : List Int) (k : Int) : mkG m (g ++ [k]) = fun s h => mkG m g s h || ((m.wv k.toNat).hours.contains (h : Int) && (m.line (m.wv k.toNat).shaft).contains (s : Int)) := by
  funext s h
  unfold mkG
  rw [List.any_append]
  simp [usesI, Bool.and_comm]
theorem mk3_start (m : PM) (g : List Int) (k : Int) : mk3 m g k [] 0 [] = mkG m g := by
  funext s h; simp [mk3]
theorem mk3_cur (m : PM) (g : List Int) (k : Int) (hs : List Int) (c c' : Int) : mk3 m g k hs c [] = mk3 m g k hs c' [] := by
  funext s h; simp [mk3]
theorem mk3_hour (m : PM) (g : List Int) (k : Int) (hs : List Int) (c c' : Int) : mk3 m g k (hs ++ [c]) c' [] = mk3 m g k hs c (m.line (m.wv k.toNat).shaft) := by
  funext s h
  unfold mk3
  rw [Bool.eq_iff_iff]
  simp
  constructor
  · rintro (h | ⟨h1 | h1, h2⟩)
    · exact .inl (.inl h)
    · exact .inl (.inr ⟨h1, h2⟩)
    · exact .inr ⟨h1, h2⟩
  · rintro ((h | ⟨h1, h2⟩) | ⟨h1, h2⟩)
    · exact .inl h
    · exact .inr ⟨.inl h1, h2⟩
    · exact .inr ⟨.inr h1, h2⟩
theorem mk3_end (m : PM) (g : List Int) (k : Int) (c : Int) : mk3 m g k (m.wv k.toNat).hours c [] = mkG m (g ++ [k]) := by
  rw [mkG_snoc]
  funext s h; simp [mk3]
/-- a spot comes: it is marked already, or it is marked now and its price is added -/
theorem mk3_old {m : PM} {g : List Int} {k : Int} {hs : List Int} {c : Nat} {ls : List Int} {x : Nat} (h : mk3 m g k hs c ls x c = true) : mk3 m g k hs c (ls ++ [(x : Int)]) = mk3 m g k hs c ls := by
  funext s t
  by_cases e : s = x ∧ t = c
  · obtain ⟨rfl, rfl⟩ := e
    rw [h]
    unfold mk3 at h ⊢
    rw [Bool.or_eq_true] at h ⊢
    rcases h with h | h
    · exact .inl h
    · refine .inr ?_
      rw [Bool.and_eq_true] at h ⊢
      exact ⟨h.1, by simp⟩
  · unfold mk3
    congr 1
    rw [Bool.eq_iff_iff]
    simp
    intro h1 h2
    exact absurd ⟨by omega, by omega⟩ e
theorem mk3_new (m : PM) (g : List Int) (k : Int) (hs : List Int) (c : Nat) (ls : List Int) (x : Nat) (s t : Nat) :
    mk3 m g k hs c (ls ++ [(x : Int)]) s t = (mk3 m g k hs c ls s t || (decide (s = x) && decide (t = c))) := by
  unfold mk3
  rw [Bool.eq_iff_iff]
  simp
  constructor
  · rintro (h | ⟨h1, h2 | h2⟩)
    · exact .inl (.inl h)
    · exact .inl (.inr ⟨h1, h2⟩)
    · exact .inr ⟨by omega, by omega⟩
  · rintro ((h | ⟨h1, h2⟩) | ⟨h1, h2⟩)
    · exact .inl h
    · exact .inr ⟨h1, .inl h2⟩
    · exact .inr ⟨by omega, .inr (by omega)⟩
theorem sum_new {m : PM} {g : List Int} {k : Int} {hs : List Int} {c : Nat} {ls : List Int} {x : Nat} (hx : x < m.shafts.length) (hc : c < 24) (h : mk3 m g k hs c ls x c = false) :
    sumM m (mk3 m g k hs c (ls ++ [(x : Int)])) = sumM m (mk3 m g k hs c ls) + (m.sh x).price := sumM_mark hx hc h fun s t => mk3_new m g k hs c ls x s t
/-- bounds of sums -/
theorem sumM_bounds {m : PM} (hm : POk m) (mk : Nat → Nat → Bool) : 0 ≤ sumM m mk ∧ sumM m mk ≤ 12960 := by
  have key : ∀ l : List (Nat × Nat), (∀ x, x ∈ l → x.1 < m.shafts.length) → 0 ≤ (l.map fun x => if mk x.1 x.2 then (m.sh x.1).price else 0).sum ∧ (l.map fun x => if mk x.1 x.2 then (m.sh x.1).price else 0).sum ≤ 60 * (l.length : Int) := by
    intro l
    induction l with
    | nil => intro _; simp
    | cons a l ih =>
      intro h
      have h1 := ih fun x hx => h x (List.mem_cons_of_mem _ hx)
      have h2 := hm.price a.1 (h a List.mem_cons_self)
      simp only [List.map_cons, List.sum_cons, List.length_cons]
      split <;> omega
  have hl : (spotL m.shafts.length).length = m.shafts.length * 24 := by
    generalize m.shafts.length = S
    induction S with
    | zero => rfl
    | succ S ih => rw [spotL_succ, List.length_append, ih]; simp; omega
  have := key (spotL m.shafts.length) fun x hx => (mem_spotL.1 hx).1
  rw [hl] at this
  have h9 := hm.sz
  unfold sumM
  omega
theorem cost_bounds {m : PM} (hm : POk m) (p : Nat → Bool) : 0 ≤ costF m p ∧ costF m p ≤ 12960 := by
  rw [costF_sumM]; exact sumM_bounds hm _
end Go.Proofs.Pow

namespace Go.Proofs.Pow

/-! The search, as nested rounds run it. -/
/-- lists of r more numbers from a on, behind l -/
def goR (n : Nat) (p : List Nat → Bool) (r : Nat) (l : List Nat) (a : Nat) : Option (List Nat) := ((cmb n r a).map (l ++ ·)).find? p
/-- .. those whose next number is below b alone -/
def goT (n : Nat) (p : List Nat → Bool) (r : Nat) (l : List Nat) (a b : Nat) : Option (List Nat) := (((List.range' a (b - a)).flatMap fun k => (cmb n r (k + 1)).map (k :: ·)).map (l ++ ·)).find? p
theorem goR_zero (n : Nat) (p : List Nat → Bool) (l : List Nat) (a : Nat) : goR n p 0 l a = if p l then some l else none := by
  unfold goR cmb
  simp [List.find?_cons]
  cases p l <;> rfl
theorem goR_succ (n : Nat) (p : List Nat → Bool) (r : Nat) (l : List Nat) (a : Nat) : goR n p (r + 1) l a = goT n p r l a n := rfl
theorem goT_start (n : Nat) (p : List Nat → Bool) (r : Nat) (l : List Nat) (a : Nat) : goT n p r l a a = none := by
  unfold goT
  rw [Nat.sub_self]
  rfl
theorem goT_step (n : Nat) (p : List Nat → Bool) (r : Nat) (l : List Nat) {a b : Nat} (h : a ≤ b) : goT n p r l a (b + 1) = (goT n p r l a b).or (goR n p r (l ++ [b]) (b + 1)) := by
  unfold goT goR
  rw [show b + 1 - a = (b - a) + 1 by omega, List.range'_concat, List.flatMap_append, List.map_append, List.find?_append, show a + 1 * (b - a) = b by omega]
  congr 1
  simp only [List.flatMap_cons, List.flatMap_nil, List.append_nil, List.map_map]
  congr 2
  funext x
  simp
theorem goT_over (n : Nat) (p : List Nat → Bool) (r : Nat) (l : List Nat) {a : Nat} (h : n ≤ a) : goT n p r l a n = none := by
  unfold goT
  rw [show n - a = 0 by omega]
  rfl
/-- lists of fewer than c numbers -/
def lenF (n : Nat) (p : List Nat → Bool) (c : Nat) : Option (List Nat) := ((List.range c).flatMap fun r => cmb n r 0).find? p
theorem lenF_zero (n : Nat) (p : List Nat → Bool) : lenF n p 0 = none := rfl
theorem lenF_succ (n : Nat) (p : List Nat → Bool) (c : Nat) : lenF n p (c + 1) = (lenF n p c).or (goR n p c [] 0) := by
  unfold lenF goR
  rw [List.range_succ, List.flatMap_append, List.find?_append]
  congr 1
  simp
theorem lenF_first (n : Nat) (p : List Nat → Bool) : lenF n p (n + 1) = firstF n p := rfl
/-- whatever is asked is a list of numbers below n in increasing order -/
theorem goR_some {n : Nat} {p : List Nat → Bool} {r : Nat} {l x : List Nat} {a : Nat} (h : goR n p r l a = some x) : p x = true ∧ x.length = l.length + r := by
  unfold goR at h
  refine ⟨List.find?_some h, ?_⟩
  obtain ⟨y, hy, rfl⟩ := List.mem_map.1 (List.mem_of_find?_eq_some h)
  rw [List.length_append, ((mem_cmb n r a y).1 hy).1]

/-! Shares on their way. -/
def shr (m : PM) (k : Nat) (x : Nat × Nat) : Int := if usesB m x.1 x.2 k then 60 * (m.sh x.1).price / (cntU m.wvs.length (usesB m x.1 x.2) : Int) else 0
def shareTo (m : PM) (L : List (Nat × Nat)) (k : Nat) : Int := (L.map (shr m k)).sum
theorem share_to (m : PM) (k : Nat) : shareP m k = shareTo m (spotL m.shafts.length) k := by
  unfold shareP shareH spots shareTo
  rw [List.map_map]
  rfl
theorem shareTo_nil (m : PM) (k : Nat) : shareTo m [] k = 0 := rfl
theorem shareTo_snoc (m : PM) (L : List (Nat × Nat)) (x : Nat × Nat) (k : Nat) : shareTo m (L ++ [x]) k = shareTo m L k + shr m k x := by
  unfold shareTo
  rw [List.map_append, List.sum_append]; simp
def spotT (s h : Nat) : List (Nat × Nat) := spotL s ++ (List.range h).map fun t => (s, t)
theorem spotT_zero (s : Nat) : spotT s 0 = spotL s := by simp [spotT]
theorem spotT_succ (s h : Nat) : spotT s (h + 1) = spotT s h ++ [(s, h)] := by
  unfold spotT
  rw [List.range_succ, List.map_append, ← List.append_assoc]; rfl
theorem spotT_full (s : Nat) : spotT s 24 = spotL (s + 1) := (spotL_succ s).symm
/-- a shaft that drives nobody -/
theorem share_nobody {m : PM} {s : Nat} (h : ∀ k, k < m.wvs.length → m.drv s k = false) {k : Nat} (hk : k < m.wvs.length) : shareTo m (spotL (s + 1)) k = shareTo m (spotL s) k := by
  rw [spotL_succ]
  unfold shareTo
  rw [List.map_append, List.sum_append]
  have : ((List.map (shr m k) ((List.range 24).map fun h => (s, h))).sum) = 0 := by
    refine sum_zero' _ _ ?_
    intro x hx
    obtain ⟨t, _, rfl⟩ := List.mem_map.1 hx
    unfold shr usesB
    rw [h k hk]; rfl
  omega
theorem shr_bounds {m : PM} (hm : POk m) (k : Nat) {x : Nat × Nat} (hx : x.1 < m.shafts.length) : 0 ≤ shr m k x ∧ shr m k x ≤ 3600 := by
  unfold shr
  have hp := hm.price x.1 hx
  split
  · refine ⟨Int.ediv_nonneg (by omega) (by omega), ?_⟩
    refine Int.le_trans (Int.ediv_le_self _ (by omega)) (by omega)
  · omega
theorem shareTo_bounds {m : PM} (hm : POk m) (k : Nat) : ∀ L : List (Nat × Nat), (∀ x, x ∈ L → x.1 < m.shafts.length) → 0 ≤ shareTo m L k ∧ shareTo m L k ≤ 3600 * (L.length : Int)
  | [], _ => ⟨Int.le_refl _, Int.le_refl _⟩
  | x :: L, h => by
    have h1 := shareTo_bounds hm k L fun y hy => h y (List.mem_cons_of_mem _ hy)
    have h2 := shr_bounds hm k (h x List.mem_cons_self)
    have e : shareTo m (x :: L) k = shr m k x + shareTo m L k := rfl
    rw [e, List.length_cons]
    omega

/-! The first least of some numbers that are there. -/
def leastF (f : Nat → Option Int) : Nat → Option (Nat × Int)
  | 0 => none
  | h + 1 => match f h, leastF f h with
    | some x, some b => if x < b.2 then some (h, x) else some b
    | some x, none => some (h, x)
    | none, b => b
theorem leastF_none {f : Nat → Option Int} : ∀ {n : Nat}, leastF f n = none ↔ ∀ h, h < n → f h = none
  | 0 => ⟨fun _ h hh => by omega, fun _ => rfl⟩
  | n + 1 => by
    have ih := leastF_none (f := f) (n := n)
    unfold leastF
    constructor
    · intro h
      cases e : f n with
      | some x =>
        rw [e] at h
        cases e2 : leastF f n with
        | none => rw [e2] at h; cases h
        | some b => rw [e2] at h; simp only at h; split at h <;> cases h
      | none =>
        rw [e] at h
        intro k hk
        by_cases e3 : k = n
        · rw [e3, e]
        · exact ih.1 h k (by omega)
    · intro h
      rw [h n (by omega)]
      exact ih.2 fun k hk => h k (by omega)
theorem leastF_some {f : Nat → Option Int} : ∀ {n : Nat} {a : Nat} {x : Int}, leastF f n = some (a, x) → a < n ∧ f a = some x ∧ ∀ h y, h < n → f h = some y → x ≤ y ∧ (y = x → a ≤ h)
  | 0, a, x, h => by cases h
  | n + 1, a, x, h => by
    unfold leastF at h
    cases e : f n with
    | none =>
      rw [e] at h
      obtain ⟨h1, h2, h3⟩ := leastF_some (n := n) h
      refine ⟨by omega, h2, fun k y hk hy => ?_⟩
      by_cases e3 : k = n
      · rw [e3, e] at hy; cases hy
      · exact h3 k y (by omega) hy
    | some z =>
      rw [e] at h
      cases e2 : leastF f n with
      | none =>
        rw [e2] at h
        simp only [Option.some.injEq, Prod.mk.injEq] at h
        obtain ⟨rfl, rfl⟩ := h
        refine ⟨by omega, e, fun k y hk hy => ?_⟩
        by_cases e3 : k = n
        · rw [e3, e] at hy; cases hy; omega
        · rw [leastF_none.1 e2 k (by omega)] at hy; cases hy
      | some b =>
        obtain ⟨b1, b2⟩ := b
        obtain ⟨h1, h2, h3⟩ := leastF_some (n := n) e2
        rw [e2] at h
        simp only at h
        split at h
        · rename_i hlt
          simp only [Option.some.injEq, Prod.mk.injEq] at h
          obtain ⟨rfl, rfl⟩ := h
          refine ⟨by omega, e, fun k y hk hy => ?_⟩
          by_cases e3 : k = n
          · rw [e3, e] at hy; cases hy; omega
          · have := (h3 k y (by omega) hy).1; omega
        · rename_i hge
          simp only [Option.some.injEq, Prod.mk.injEq] at h
          obtain ⟨rfl, rfl⟩ := h
          refine ⟨by omega, h2, fun k y hk hy => ?_⟩
          by_cases e3 : k = n
          · rw [e3, e] at hy; cases hy; omega
          · exact h3 k y (by omega) hy
end Go.Proofs.Pow

namespace Go.Proofs.Pow

def sortL (xs : List Int) : List Int := xs.mergeSort fun x y => decide (x ≤ y)
theorem sortL_perm (xs : List Int) : (sortL xs).Perm xs := List.mergeSort_perm xs _
theorem sortL_le (xs : List Int) : (sortL xs).Pairwise (· ≤ ·) := by
  have := List.pairwise_mergeSort (le := fun x y : Int => decide (x ≤ y)) (fun a b c h1 h2 => by simp only [decide_eq_true_eq] at *; omega) (fun a b => by simp only [Bool.or_eq_true, decide_eq_true_eq]; omega) xs
  exact this.imp fun h => by simpa using h
/-- weaver k uses power in the hour h, too -/
def useP (m : PM) (k : Nat) (h : Int) : PM := { m with wvs := (List.range m.wvs.length).map fun i => if i = k then { shaft := (m.wv i).shaft, hours := sortL ((m.wv i).hours ++ [h]) } else m.wv i }
theorem useP_len (m : PM) (k : Nat) (h : Int) : (useP m k h).wvs.length = m.wvs.length := by simp [useP]
theorem useP_wv (m : PM) (k : Nat) (h : Int) {i : Nat} (hi : i < m.wvs.length) : (useP m k h).wv i = if i = k then { shaft := (m.wv i).shaft, hours := sortL ((m.wv i).hours ++ [h]) } else m.wv i := by
  unfold PM.wv useP
  simp [hi, PM.wv]
theorem use_used {m : PM} {k h : Nat} (hk : k < m.wvs.length) : Used m (useP m k (h : Int)) k h := by
  refine ⟨rfl, useP_len _ _ _, hk, fun j hj => ?_, ?_, fun x => ?_⟩
  · by_cases hl : j < m.wvs.length
    · rw [useP_wv m k h hl, if_neg hj]
    · unfold PM.wv
      rw [List.getElem?_eq_none (by rw [useP_len]; omega), List.getElem?_eq_none (by omega)]
  · rw [useP_wv m k h hk, if_pos rfl]
  · rw [useP_wv m k h hk, if_pos rfl, Bool.eq_iff_iff, Bool.or_eq_true, List.contains_iff_mem, List.contains_iff_mem, decide_eq_true_eq]
    show x ∈ sortL _ ↔ _
    rw [(sortL_perm _).mem_iff, List.mem_append, List.mem_singleton]
theorem use_ok {m : PM} (hm : POk m) {k h : Nat} (hk : k < m.wvs.length) (hh : h < 24) (hn : (m.wv k).hours.contains (h : Int) = false) : POk (useP m k (h : Int)) := by
  have hl := useP_len m k (h : Int)
  have hw : ∀ i, i < m.wvs.length → ((useP m k (h : Int)).wv i).shaft = (m.wv i).shaft := fun i hi => by rw [useP_wv m k h hi]; split <;> rfl
  refine ⟨hm.sz, by rw [hl]; exact hm.few, hm.price, fun i hi x hx => ?_, hm.up, fun i hi => ?_, fun i hi => ?_⟩
  · rw [hl] at hi
    rw [useP_wv m k h hi] at hx
    split at hx
    · have hx' : x ∈ sortL ((m.wv i).hours ++ [(h : Int)]) := hx
      rw [(sortL_perm _).mem_iff, List.mem_append, List.mem_singleton] at hx'
      rcases hx' with hx' | rfl
      · exact hm.hour i hi x hx'
      · omega
    · exact hm.hour i hi x hx
  · rw [hl] at hi
    rw [hw i hi]
    exact hm.at_ i hi
  · rw [hl] at hi
    rw [useP_wv m k h hi]
    split
    · rename_i e
      subst e
      show (sortL _).Pairwise _
      have h1 := sortL_le ((m.wv i).hours ++ [(h : Int)])
      have h2 : (sortL ((m.wv i).hours ++ [(h : Int)])).Nodup := by
        rw [(sortL_perm _).nodup_iff, List.nodup_append]
        refine ⟨hm.nodup hi, by simp, fun a ha b hb e => ?_⟩
        rw [List.mem_singleton] at hb
        subst hb; subst e
        rw [List.contains_iff_mem.2 ha] at hn
        cases hn
      exact (h1.and (List.nodup_iff_pairwise_ne.1 h2)).imp fun h => by omega
    · exact hm.rise i hi
def extraF (m : PM) (k h : Nat) : Int := costF (useP m k (h : Int)) (fun _ => true) - costF m fun _ => true
def offerF (m : PM) (k h : Nat) : Option Int := if (m.wv k).hours.contains (h : Int) then none else some (extraF m k h)
def cheapF (m : PM) (k : Nat) : Option (Nat × Int) := leastF (offerF m k) 24
/-- what each adds in an order of coming -/
def addsF (m : PM) (l : List Nat) : List Int := (List.range m.wvs.length).map fun k => addF m l (l.findIdx fun x => decide (x = k))
theorem findIdx_at {l : List Nat} (hn : l.Nodup) {i : Nat} (hi : i < l.length) : l.findIdx (fun x => decide (x = l[i])) = i := by
  rw [List.findIdx_eq hi]
  refine ⟨by simp, fun j hj => ?_⟩
  rw [decide_eq_false_iff_not]
  intro e
  have := List.pairwise_iff_getElem.1 (List.nodup_iff_pairwise_ne.1 hn) j i (by omega) hi hj
  exact this e
theorem addsF_at {m : PM} {l : List Nat} (hn : l.Nodup) {i : Nat} (hi : i < l.length) (hk : l[i] < m.wvs.length) : (addsF m l)[l[i]]?.getD 0 = addF m l i := by
  unfold addsF
  rw [List.getElem?_map, List.getElem?_range hk]
  simp only [Option.map_some, Option.getD_some]
  rw [findIdx_at hn hi]
end Go.Proofs.Pow

namespace Go.Proofs.Pow

/-- how many of a group use power of shaft s in the hour h -/
def useI (m : PM) (g : List Int) (s h : Nat) : Nat := (g.filter fun k => m.drv s k.toNat && (m.wv k.toNat).hours.contains (h : Int)).length
def allI (n : Nat) : List Int := (List.range n).map fun k : Nat => (k : Int)
theorem useI_nil (m : PM) (s h : Nat) : useI m [] s h = 0 := rfl
theorem useI_snoc (m : PM) (g : List Int) (k : Nat) (s h : Nat) : useI m (g ++ [(k : Int)]) s h = useI m g s h + if usesB m s h k then 1 else 0 := by
  unfold useI
  rw [List.filter_append, List.length_append]
  congr 1
  show (List.filter _ [(k : Int)]).length = _
  rw [List.filter_cons]
  show (if usesB m s h k = true then _ else _ : List Int).length = _
  split <;> rfl
theorem useI_le (m : PM) (g : List Int) (s h : Nat) : useI m g s h ≤ g.length := List.length_filter_le _ _
theorem useI_all (m : PM) (n s h : Nat) : useI m (allI n) s h = cntU n (usesB m s h) := by
  unfold useI allI cntU
  rw [List.filter_map, List.length_map]
  rfl
theorem useI_one (m : PM) (s h k : Nat) : 0 < useI m [(k : Int)] s h ↔ usesB m s h k = true := by
  have := useI_snoc m [] k s h
  rw [useI_nil, List.nil_append] at this
  rw [this]
  split
  · rename_i e; simp [e]
  · rename_i e; simp [e]
theorem use_runs (m : PM) (s h : Nat) : 0 < useI m (allI m.wvs.length) s h ↔ runsB m s h = true := by
  rw [useI_all]
  unfold runsB
  rw [hitQ_iff]
  unfold cntU
  rw [List.length_pos_iff_exists_mem]
  constructor
  · rintro ⟨k, hk⟩
    rw [List.mem_filter, List.mem_range] at hk
    exact ⟨k, hk.1, hk.2, rfl⟩
  · rintro ⟨k, h1, h2, -⟩
    exact ⟨k, List.mem_filter.2 ⟨List.mem_range.2 h1, h2⟩⟩
/-- a group of all -/
theorem all_group (m : PM) : costF m (fun k => (allI m.wvs.length).contains (k : Int)) = costF m fun _ => true := by
  refine costQ_congr fun k hk => ?_
  rw [List.contains_iff_mem]
  exact List.mem_map.2 ⟨k, List.mem_range.2 hk, rfl⟩
theorem all_in (m : PM) : InG m (allI m.wvs.length) := by
  intro k hk
  obtain ⟨i, hi, rfl⟩ := List.mem_map.1 hk
  have := List.mem_range.1 hi
  omega
end Go.Proofs.Pow

namespace Go.Proofs.Pow
def threeM : PM := ⟨[⟨-1, 6⟩, ⟨0, 4⟩, ⟨0, 3⟩], [⟨1, [0, 1]⟩, ⟨1, [1, 2]⟩, ⟨2, [1]⟩]⟩
def sightF (l : List Int) (k : Nat) : Int := l[k]?.getD 0
theorem three_shares : (List.range 3).map (shareP threeM) = [840, 840, 300] := by kernel_rfl
theorem three_adds : addsF threeM [2, 1, 0] = [10, 14, 9] := by kernel_rfl
theorem three_better : betterF threeM [1300, 380, 300] = some [0] := by kernel_rfl
theorem three_sure : clashB threeM (sightF [2, 2, 1]) = false ∧ sureL threeM (sightF [2, 2, 1]) = [1, 1] := ⟨by kernel_rfl, by kernel_rfl⟩
theorem three_slipped : firstF 3 (explB threeM (sightF [2, 0, 2])) = some [0] := by kernel_rfl
theorem three_clash : clashB threeM (sightF [2, 1, 0]) = true := by kernel_rfl
theorem leastF_congr {f g : Nat → Option Int} : ∀ {n : Nat}, (∀ h, h < n → f h = g h) → leastF f n = leastF g n
  | 0, _ => rfl
  | n + 1, h => by
    unfold leastF
    rw [h n (by omega), leastF_congr (n := n) fun x hx => h x (by omega)]
/-- what one hour more costs, by the line -/
def extraL (m : PM) (k h : Nat) : Int := ((m.line (m.wv k).shaft).map fun x => if runsB m x.toNat h then 0 else (m.sh x.toNat).price).sum
theorem extra_line {m : PM} (hm : POk m) {k h : Nat} (hk : k < m.wvs.length) (hh : h < 24) : extraF m k h = extraL m k h := (use_used hk).extra hm hh
theorem cheap_line {m : PM} (hm : POk m) {k : Nat} (hk : k < m.wvs.length) : cheapF m k = leastF (fun h => if (m.wv k).hours.contains (h : Int) then none else some (extraL m k h)) 24 :=
  leastF_congr fun h hh => by
    unfold offerF
    rw [extra_line hm hk hh]
theorem three_ok : POk threeM where
  sz := by decide
  few := by decide
  price := by decide
  hour := by decide
  up := by unfold UpOk; decide
  at_ := by unfold AtOk; decide
  rise := by decide
theorem three_cheap : cheapF threeM 2 = some (0, 3) := (cheap_line three_ok (by decide)).trans (by kernel_rfl)
end Go.Proofs.Pow
